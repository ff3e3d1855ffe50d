/- Numbers read from texts, by both. Conditions at each. -/
import Derived.Test.YtdecakimhjieeaaDoorDec
import Derived.Test.YtdecakimhjieeaaDoorShelf
import Derived.Test.YtdecakimhjieeaaDoorReplL
import Derived.Lib.SmallJoins
import Derived.Lib.AppendIntMem
import Derived.Lib.AtoiErrMem
import Derived.Lib.ParseIntBTie
namespace Go.Proofs.YtdecakimhjieeaaDoor
set_option linter.unusedVariables false
set_option linter.unusedSimpArgs false
open Go Go.RowKit
def ofI (n : Int) : ByteArray := ⟨(Lib.itoa n).toArray⟩
theorem ofI_nat (m : Nat) : ofI m = decS m := by
  unfold ofI decS
  rw [Lib.itoa_nonneg]
/-- What a reading of a number says. -/
def NumR (x : ByteArray) (z : Int) (ok : Bool) : Prop := -9223372036854775808 ≤ z ∧ z ≤ 9223372036854775807 ∧ (ok = true → 1 ≤ z → z < 100 → x = decS z.toNat) ∧ ∀ m : Nat, 1 ≤ m → m < 100 → x = decS m → z = m ∧ ok = true
def RetN (x : ByteArray) (w : World) (e : Ending) (w' : World) : Prop := ∃ z ok, e = .returned (.tuple #[.int .i64 z, .bool ok]) ∧ NumR x z ok ∧ Ext w w'
theorem bytes_beqN (p q : ByteArray) : (p.toList == q.toList) = decide (p = q) := by
  rw [Bool.eq_iff_iff, beq_iff_eq, decide_eq_true_iff, ByteArray.toList_eq, ByteArray.toList_eq]
  exact ⟨fun h => ByteArray.ext (Array.toList_inj.1 h), fun h => by rw [h]⟩
theorem dec_inj1 : ∀ a : Fin 10, Lib.parseIntB 64 [UInt8.ofNat (48 + a.val)] = .ok (a.val : Int) := by decide +kernel
theorem dec_inj2 : ∀ a b : Fin 10, Lib.parseIntB 64 [UInt8.ofNat (48 + a.val), UInt8.ofNat (48 + b.val)] = .ok ((a.val * 10 + b.val : Nat) : Int) := by decide +kernel
theorem parse_dec (m : Nat) (h : m < 100) : Lib.parseIntB 64 (decS m).data.toList = .ok (m : Int) := by
  show Lib.parseIntB 64 (Lib.decDigits m) = _
  by_cases h1 : m < 10
  · rw [Lib.decDigits_one h1]
    exact dec_inj1 ⟨m, h1⟩
  · rw [Lib.decDigits_two h1 h]
    have := dec_inj2 ⟨m / 10, by omega⟩ ⟨m % 10, by omega⟩
    rw [this]
    congr 1
    show ((m / 10 * 10 + m % 10 : Nat) : Int) = m
    congr 1
    omega
theorem dec_head (m : Nat) (h : m < 100) : ∃ a r, (decS m).data.toList = a :: r ∧ 48 ≤ a.toNat ∧ a.toNat ≤ 57 := by
  show ∃ a r, Lib.decDigits m = a :: r ∧ _
  by_cases h1 : m < 10
  · rw [Lib.decDigits_one h1]
    exact ⟨_, _, rfl, by simp; omega, by simp; omega⟩
  · rw [Lib.decDigits_two h1 h]
    exact ⟨_, _, rfl, by simp; omega, by simp; omega⟩
/-- What the reading of numbers asks of the library's variables. -/
def NumF (w : World) : Prop := MaxAt w ∧ (∃ tp p, w.cell? ⟨2, 0, none⟩ = some (.iface tp p)) ∧ (∃ tp p, w.cell? ⟨3, 0, none⟩ = some (.iface tp p)) ∧ Lib.TabIs Tryd.prog w "internal/strconv.uint64pow10" .u64 Lib.pow10Tab
theorem NumF.ext {w w' : World} (h : NumF w) (k : Ext w w') : NumF w' := by
  obtain ⟨h1, ⟨a, b, h2⟩, ⟨c, d, h3⟩, h4⟩ := h
  exact ⟨h1.ext k, ⟨a, b, k.cell h2⟩, ⟨c, d, k.cell h3⟩, Go.Joins.tab_stays (g := 1) (by kernel_rfl) h4 k (Nat.le_refl _)⟩
theorem ParseInt_ex (s : ByteArray) (w : World) (hs : s.size ≤ 1048576) (hN : NumF w) : Calls Tryd.prog 70 #[.string s, .int .i64 10, .int .i64 64] w fun e w' =>
    (∃ z, e = .returned (.tuple #[.int .i64 z, .nilIface]) ∧ Lib.parseIntB 64 s.data.toList = .ok z ∧ Ext w w') ∨ (∃ z t p, e = .returned (.tuple #[.int .i64 z, .iface t p]) ∧ (∀ v, Lib.parseIntB 64 s.data.toList ≠ .ok v) ∧ Ext w w') := by
  obtain ⟨h1, ⟨a, b, h2⟩, ⟨c, d, h3⟩, h4⟩ := hN
  rcases hp : Lib.parseIntB 64 s.data.toList with v | _ | _
  · refine (Tryd.strconv_ParseInt_10_at64_ok s (by omega) v hp w).mono ?_
    rintro e w' ⟨rfl, hw⟩
    refine .inl ⟨v, rfl, rfl, ?_⟩
    rcases hw with rfl | ⟨t, rfl⟩
    · exact Ext.refl _
    · exact Go.Joins.below_bytesWorld _ _ _ _ (Nat.le_refl _)
  · refine (Any.strconv_ParseInt_10_at64_syntax Tryd.laysC174 s (by omega) hp _ w h2 (.inr ⟨_, _, rfl⟩)).mono ?_
    rintro e w' ⟨N, rfl, _, _, hx⟩
    exact .inr ⟨_, _, _, rfl, (fun v h => by cases h), hx⟩
  · refine (Tryd.strconv_ParseInt_10_at64_range s (by omega) hp _ w h3 (.inr ⟨_, _, rfl⟩)).mono ?_
    rintro e w' ⟨N, rfl, _, _, hx⟩
    exact .inr ⟨_, _, _, rfl, (fun v h => by cases h), hx⟩
theorem Decimal_all (n : Int) (w : World) (h0 : -9223372036854775808 ≤ n) (h1 : n ≤ 9223372036854775807) (hN : NumF w) : Calls Tryd.prog 24 #[.int .i64 n] w (Ret (.string (ofI n)) w) := by
  have HF := hid (Tryd.strconv_FormatInt_10 n h0 h1 w hN.2.2.2)
  have HD : Hid (ofI n = ⟨(Lib.itoa n).toArray⟩) := hid rfl
  go_enter Tryd.func24, Tryd.ntmps24
  go_wp2_with fail
  refine HF.out.mono ?_
  rintro e w1 ⟨rfl, k, os, rfl⟩
  have hx := Lib.below_grow w.heap.size w (Nat.le_refl _) k os
  go_wp2_with fail
  go_returns
  exact ⟨by rw [HD.out]; rfl, hx⟩
set_option maxHeartbeats 800000 in
theorem anyDecimal_ex (s : ByteArray) (w : World) (hs : s.size ≤ 1048576) (hN : NumF w) : Calls Tryd.prog 56 #[.string s] w (RetN s w) := by
  have HP := hid (ParseInt_ex s w hs hN)
  have HN := hid (fun w' (k : Ext w w') => hN.ext k)
  have HC := hid (fun m h => parse_dec m h)
  clear hN
  go_enter Tryd.func56, Tryd.ntmps56
  go_wp2_with fail
  refine HP.out.mono ?_
  rintro e w1 (⟨z, rfl, hz, hx⟩ | ⟨z, t, p, rfl, hz, hx⟩)
  · have hb := Lib.parseIntB_bounds hz
    have hb1 : -9223372036854775808 ≤ z := by have := hb.1; simp at this; omega
    have hb2 : z ≤ 9223372036854775807 := by have := hb.2; simp at this; omega
    have HZ := hid hz
    have HD := hid (Decimal_all z w1 hb1 hb2 (HN.out _ hx))
    clear hb hz
    obtain ⟨D, hD⟩ : ∃ D, ofI z = D := ⟨_, rfl⟩
    have HDD := hid hD
    rw [hD] at HD
    clear hD
    go_wp2_with fail
    refine HD.out.mono ?_
    rintro e w2 ⟨rfl, hx2⟩
    have hE := hx.trans hx2
    clear hx hx2
    by_cases hq : D = s
    · have hq1 : (D.toList == s.toList) = true := by rw [bytes_beqN, decide_eq_true hq]
      go_wp2_with fail
      go_returns
      refine ⟨z, true, rfl, ⟨hb1, hb2, fun _ h1 h2 => ?_, fun m h1 h2 h3 => ⟨?_, rfl⟩⟩, hE⟩
      · rw [← hq, ← HDD.out, ← ofI_nat, show ((z.toNat : Nat) : Int) = z by omega]
      · have := HC.out m h2
        rw [← h3, HZ.out] at this
        injection this
    · have hq1 : (D.toList == s.toList) = false := by rw [bytes_beqN, decide_eq_false hq]
      go_wp2_with fail
      go_returns
      refine ⟨0, false, rfl, ⟨by omega, by omega, (fun h => by cases h), fun m h1 h2 h3 => ?_⟩, hE⟩
      have := HC.out m h2
      rw [← h3, HZ.out] at this
      injection this with this
      exact absurd (by rw [← HDD.out, this, ofI_nat, h3]) hq
  · go_wp2_with fail
    go_returns
    refine ⟨0, false, rfl, ⟨by omega, by omega, (fun h => by cases h), fun m h1 h2 h3 => ?_⟩, hx⟩
    have := HC.out m h2
    rw [← h3] at this
    exact absurd this (hz _)
set_option maxHeartbeats 800000 in
theorem ReadDecimal_ex (s : ByteArray) (w : World) (hs : s.size ≤ 1048576) (hN : NumF w) : Calls Tryd.prog 31 #[.string s] w (RetN s w) := by
  have HT := hid (Tryd.strings_TrimPrefix s ⟨#[45]⟩)
  have HA := hid (anyDecimal_ex s w hs hN)
  have HZ : Hid (∀ m : Nat, 1 ≤ m → m < 100 → s = decS m → (⟨(Lib.trimPrefix s.data.toList [45]).toArray⟩ : ByteArray).size ≤ 2) := hid (by
    intro m h1 h2 h3
    obtain ⟨a, r, e, ha, hb⟩ := dec_head m h2
    have h4 := decS_size m h2
    rw [← h3] at e h4
    have : Lib.trimPrefix s.data.toList [45] = s.data.toList := by
      unfold Lib.trimPrefix Lib.hasPrefix
      rw [e]
      have : ([45] : List UInt8).isPrefixOf (a :: r) = false := by
        simp only [List.isPrefixOf, Bool.and_true]
        rw [beq_eq_false_iff_ne]
        intro q
        rw [← q] at ha
        exact absurd ha (by decide)
      rw [this]
      rfl
    rw [this]
    exact h4)
  obtain ⟨T, hT⟩ : ∃ T : ByteArray, (⟨(Lib.trimPrefix s.data.toList [45]).toArray⟩ : ByteArray) = T := ⟨_, rfl⟩
  have HT2 : Hid (∀ w, Calls Tryd.prog 32 #[.string s, .string ⟨#[45]⟩] w (Same (.string T) w)) := hid (fun w => (HT.out w).mono (by rintro e w' ⟨rfl, rfl⟩; exact ⟨by rw [← hT], rfl⟩))
  rw [hT] at HZ
  clear hT HT hN
  by_cases hl : 18 < T.size
  · have hl1 : (18 : Int) < (T.size : Int) := by omega
    go_enter Tryd.func31, Tryd.ntmps31
    go_wp2_with fail
    refine (HT2.out _).mono ?_
    rintro e w1 ⟨rfl, rfl⟩
    go_wp2_with fail
    go_returns
    refine ⟨0, false, rfl, ⟨by omega, by omega, (fun h => by cases h), fun m h1 h2 h3 => ?_⟩, Ext.refl _⟩
    have := HZ.out m h1 h2 h3
    omega
  · have hl1 : ¬ (18 : Int) < (T.size : Int) := by omega
    go_enter Tryd.func31, Tryd.ntmps31
    go_wp2_with fail
    refine (HT2.out _).mono ?_
    rintro e w1 ⟨rfl, rfl⟩
    go_wp2_with fail
    refine HA.out.mono ?_
    rintro e w2 ⟨z, ok, rfl, hz, hx⟩
    have HZ2 := hid hz
    clear hz
    go_wp2_with fail
    go_returns
    exact ⟨z, ok, rfl, HZ2.out, hx⟩
end Go.Proofs.YtdecakimhjieeaaDoor
