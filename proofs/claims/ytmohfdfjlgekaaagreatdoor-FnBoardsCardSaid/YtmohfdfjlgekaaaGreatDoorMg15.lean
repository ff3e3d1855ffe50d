/- Several texts in one: SplM, Num1. Conditions: see each. -/
import Derived.Test.YtmohfdfjlgekaaaGreatDoorMg4
import Derived.Test.YtmohfdfjlgekaaaGreatDoorMg13
import Derived.Test.YtmohfdfjlgekaaaGreatDoorShelf
import Derived.Test.YtmohfdfjlgekaaaGreatDoorMg5
import Derived.Lib.SmallJoins
import Derived.Lib.AppendIntMem
import Derived.Lib.AtoiErrMem
import Derived.Lib.ParseIntBTie
section
namespace Go.Proofs.YtmohfdfjlgekaaaGreatDoor
set_option linter.unusedVariables false
set_option linter.unusedSimpArgs false
open Go Go.RowKit
def ofL (l : List UInt8) : ByteArray := ⟨l.toArray⟩
theorem ofL_size (l : List UInt8) : (ofL l).size = l.length := by
  show l.toArray.size = l.length
  exact List.size_toArray ..
theorem ofL_list (l : List UInt8) : (ofL l).data.toList = l := rfl
theorem ofL_of (s : ByteArray) : ofL s.data.toList = s := rfl
theorem bAt_ofL (l : List UInt8) (i : Nat) : bAt (ofL l) i = l.getD i 0 := rfl
theorem ba_list {x y : ByteArray} (h : x.data.toList = y.data.toList) : x = y := by
  rw [← ofL_of x, ← ofL_of y, h]
theorem extract_list (s : ByteArray) (a b : Nat) : (s.extract a b).data.toList = (s.data.toList.drop a).take (b - a) := by
  rw [ByteArray.data_extract, Array.toList_extract]
theorem splitC_nil (c : UInt8) : splitC c ⟨#[]⟩ = [⟨#[]⟩] := by
  show [(⟨#[]⟩ : ByteArray).extract 0 0] = _
  rfl
theorem splitC_line (c : UInt8) (x l : List UInt8) (hx : ∀ u ∈ x, u ≠ c) : splitC c (ofL (x ++ c :: l)) = ofL x :: splitC c (ofL l) := by
  have h1 : x.length < (ofL (x ++ c :: l)).size := by rw [ofL_size]; simp
  have h := pieces_hit c (ofL (x ++ c :: l)) x.length h1 (by rw [bAt_ofL]; simp) (fun k hk => by
    rw [bAt_ofL]
    have : (x ++ c :: l).getD k 0 = x[k] := by simp [List.getD, List.getElem?_append_left hk, hk]
    rw [this]
    exact hx _ (List.getElem_mem _))
  rw [splitC_eq, splitC_eq] at h
  rw [h]
  congr 1
  · apply ba_list
    rw [extract_list, ofL_list, ofL_list]
    simp
  · congr 1
    apply ba_list
    rw [extract_list, ofL_list, ofL_list, ofL_size]
    simp
    exact List.take_of_length_le (by omega)
theorem splitC_none (c : UInt8) (s : ByteArray) (h : ∀ u ∈ s.data.toList, u ≠ c) : splitC c s = [s] := by
  rw [← splitC_eq]
  exact pieces_miss c s (fun k hk => h _ (List.mem_of_getElem? (at_someC hk)))
/-- Lines, each with its end. -/
def unl (c : UInt8) (ls : List ByteArray) : List UInt8 := ls.flatMap fun s => s.data.toList ++ [c]
theorem splitC_unl (c : UInt8) : ∀ (ls : List ByteArray), (∀ s ∈ ls, ∀ u ∈ s.data.toList, u ≠ c) → splitC c (ofL (unl c ls)) = ls ++ [⟨#[]⟩]
  | [], _ => splitC_nil c
  | s :: ls, h => by
    have e : unl c (s :: ls) = s.data.toList ++ c :: unl c ls := by simp [unl]
    rw [e, splitC_line c _ _ (h s (List.mem_cons_self ..)), splitC_unl c ls (fun t ht => h t (List.mem_cons_of_mem _ ht)), ofL_of]
    rfl
theorem list_len (s : ByteArray) : s.data.toList.length = s.size := Array.length_toList
theorem extract_snoc (c : UInt8) (s : ByteArray) (a b : Nat) (hb : b ≤ s.size) : (ofL (s.data.toList ++ [c])).extract a b = s.extract a b := by
  apply ba_list
  have hl := list_len s
  rw [extract_list, extract_list, ofL_list]
  by_cases h : a ≤ s.data.toList.length
  · rw [List.drop_append_of_le_length h, List.take_append_of_le_length]
    rw [List.length_drop]
    omega
  · have : b - a = 0 := by omega
    rw [this, List.take_zero, List.take_zero]
theorem cutC_snoc (c : UInt8) (s : ByteArray) : ∀ k, k ≤ s.size → cutC c (ofL (s.data.toList ++ [c])) k = cutC c s k
  | 0, _ => rfl
  | k + 1, hk => by
    have ih := cutC_snoc c s k (by omega)
    have hb : bAt (ofL (s.data.toList ++ [c])) k = bAt s k := by
      rw [bAt_ofL]
      have : k < s.data.toList.length := by rw [list_len]; omega
      simp only [bAt, List.getD, List.getElem?_append_left this]
    unfold cutC
    rw [hb, ih, extract_snoc c s _ _ (by omega)]
theorem splitC_snoc (c : UInt8) (s : ByteArray) : splitC c (ofL (s.data.toList ++ [c])) = splitC c s ++ [⟨#[]⟩] := by
  have hz : (ofL (s.data.toList ++ [c])).size = s.size + 1 := by rw [ofL_size, List.length_append, list_len]; rfl
  have hcut := cutC_snoc c s s.size (Nat.le_refl _)
  have hb : bAt (ofL (s.data.toList ++ [c])) s.size = c := by
    rw [bAt_ofL, ← list_len s]
    simp [List.getD]
  have hstep : cutC c (ofL (s.data.toList ++ [c])) (s.size + 1) = ((cutC c s s.size).1 ++ [s.extract (cutC c s s.size).2 s.size], s.size + 1) := by
    show (if bAt _ s.size = c then _ else _) = _
    rw [hb, if_pos rfl, hcut, extract_snoc c s _ _ (Nat.le_refl _)]
  have he : (ofL (s.data.toList ++ [c])).extract (s.size + 1) (s.size + 1) = ⟨#[]⟩ := by
    apply ba_list
    rw [extract_list, Nat.sub_self, List.take_zero]
  show (cutC c _ (ofL (s.data.toList ++ [c])).size).1 ++ [(ofL (s.data.toList ++ [c])).extract (cutC c _ (ofL (s.data.toList ++ [c])).size).2 (ofL (s.data.toList ++ [c])).size] = _
  rw [hz, hstep]
  simp only
  rw [he]
  rfl
end Go.Proofs.YtmohfdfjlgekaaaGreatDoor
end
section
namespace Go.Proofs.YtmohfdfjlgekaaaGreatDoor
set_option linter.unusedVariables false
set_option linter.unusedSimpArgs false
open Go Go.RowKit
def ofI (n : Int) : ByteArray := ⟨(Lib.itoa n).toArray⟩
theorem ofI_nat (m : Nat) : ofI m = decS m := by
  unfold ofI decS
  rw [Lib.itoa_nonneg]
/-- What a reading of a number says. -/
def NumR (x : ByteArray) (z : Int) (ok : Bool) : Prop := -9223372036854775808 ≤ z ∧ z ≤ 9223372036854775807 ∧ (ok = true → 1 ≤ z → z < 100 → x = decS z.toNat) ∧ ∀ m : Nat, 1 ≤ m → m < 100 → x = decS m → z = m ∧ ok = true
def RetN (x : ByteArray) (w : World) (e : Ending) (w' : World) : Prop := ∃ z ok, e = .returned (.tuple #[.int .i64 z, .bool ok]) ∧ NumR x z ok ∧ Ext w w'
theorem bytes_beqN (p q : ByteArray) : (p.toList == q.toList) = decide (p = q) := by
  rw [Bool.eq_iff_iff, beq_iff_eq, decide_eq_true_iff, ByteArray.toList_eq, ByteArray.toList_eq]
  exact ⟨fun h => ByteArray.ext (Array.toList_inj.1 h), fun h => by rw [h]⟩
theorem dec_inj1 : ∀ a : Fin 10, Lib.parseIntB 64 [UInt8.ofNat (48 + a.val)] = .ok (a.val : Int) := by decide +kernel
theorem dec_inj2 : ∀ a b : Fin 10, Lib.parseIntB 64 [UInt8.ofNat (48 + a.val), UInt8.ofNat (48 + b.val)] = .ok ((a.val * 10 + b.val : Nat) : Int) := by decide +kernel
theorem parse_dec (m : Nat) (h : m < 100) : Lib.parseIntB 64 (decS m).data.toList = .ok (m : Int) := by
  show Lib.parseIntB 64 (Lib.decDigits m) = _
  by_cases h1 : m < 10
  · rw [Lib.decDigits_one h1]
    exact dec_inj1 ⟨m, h1⟩
  · rw [Lib.decDigits_two h1 h]
    have := dec_inj2 ⟨m / 10, by omega⟩ ⟨m % 10, by omega⟩
    rw [this]
    congr 1
    show ((m / 10 * 10 + m % 10 : Nat) : Int) = m
    congr 1
    omega
theorem dec_head (m : Nat) (h : m < 100) : ∃ a r, (decS m).data.toList = a :: r ∧ 48 ≤ a.toNat ∧ a.toNat ≤ 57 := by
  show ∃ a r, Lib.decDigits m = a :: r ∧ _
  by_cases h1 : m < 10
  · rw [Lib.decDigits_one h1]
    exact ⟨_, _, rfl, by simp; omega, by simp; omega⟩
  · rw [Lib.decDigits_two h1 h]
    exact ⟨_, _, rfl, by simp; omega, by simp; omega⟩
/-- What the reading of numbers asks of the library's variables. -/
def NumF (w : World) : Prop := MaxAt w ∧ (∃ tp p, w.cell? ⟨5, 0, none⟩ = some (.iface tp p)) ∧ (∃ tp p, w.cell? ⟨6, 0, none⟩ = some (.iface tp p)) ∧ Lib.TabIs Tryz.prog w "internal/strconv.uint64pow10" .u64 Lib.pow10Tab
theorem NumF.ext {w w' : World} (h : NumF w) (k : Ext w w') : NumF w' := by
  obtain ⟨h1, ⟨a, b, h2⟩, ⟨c, d, h3⟩, h4⟩ := h
  exact ⟨h1.ext k, ⟨a, b, k.cell h2⟩, ⟨c, d, k.cell h3⟩, Go.Joins.tab_stays (g := 2) (by kernel_rfl) h4 k (Nat.le_refl _)⟩
theorem ParseInt_ex (s : ByteArray) (w : World) (hs : s.size ≤ 1048576) (hN : NumF w) : Calls Tryz.prog 116 #[.string s, .int .i64 10, .int .i64 64] w fun e w' =>
    (∃ z, e = .returned (.tuple #[.int .i64 z, .nilIface]) ∧ Lib.parseIntB 64 s.data.toList = .ok z ∧ Ext w w') ∨ (∃ z t p, e = .returned (.tuple #[.int .i64 z, .iface t p]) ∧ (∀ v, Lib.parseIntB 64 s.data.toList ≠ .ok v) ∧ Ext w w') := by
  obtain ⟨h1, ⟨a, b, h2⟩, ⟨c, d, h3⟩, h4⟩ := hN
  rcases hp : Lib.parseIntB 64 s.data.toList with v | _ | _
  · refine (Tryz.strconv_ParseInt_10_at64_ok s (by omega) v hp w).mono ?_
    rintro e w' ⟨rfl, hw⟩
    refine .inl ⟨v, rfl, rfl, ?_⟩
    rcases hw with rfl | ⟨t, rfl⟩
    · exact Ext.refl _
    · exact Go.Joins.below_bytesWorld _ _ _ _ (Nat.le_refl _)
  · refine (Any.strconv_ParseInt_10_at64_syntax Tryz.laysC174 s (by omega) hp _ w h2 (.inr ⟨_, _, rfl⟩)).mono ?_
    rintro e w' ⟨N, rfl, _, _, hx⟩
    exact .inr ⟨_, _, _, rfl, (fun v h => by cases h), hx⟩
  · refine (Tryz.strconv_ParseInt_10_at64_range s (by omega) hp _ w h3 (.inr ⟨_, _, rfl⟩)).mono ?_
    rintro e w' ⟨N, rfl, _, _, hx⟩
    exact .inr ⟨_, _, _, rfl, (fun v h => by cases h), hx⟩
theorem Decimal_all (n : Int) (w : World) (h0 : -9223372036854775808 ≤ n) (h1 : n ≤ 9223372036854775807) (hN : NumF w) : Calls Tryz.prog 46 #[.int .i64 n] w (Ret (.string (ofI n)) w) := by
  have HF := hid (Tryz.strconv_FormatInt_10 n h0 h1 w hN.2.2.2)
  have HD : Hid (ofI n = ⟨(Lib.itoa n).toArray⟩) := hid rfl
  go_enter Tryz.func46, Tryz.ntmps46
  go_wp2_with fail
  refine HF.out.mono ?_
  rintro e w1 ⟨rfl, k, os, rfl⟩
  have hx := Lib.below_grow w.heap.size w (Nat.le_refl _) k os
  go_wp2_with fail
  go_returns
  exact ⟨by rw [HD.out]; rfl, hx⟩
set_option maxHeartbeats 800000 in
theorem anyDecimal_ex (s : ByteArray) (w : World) (hs : s.size ≤ 1048576) (hN : NumF w) : Calls Tryz.prog 89 #[.string s] w (RetN s w) := by
  have HP := hid (ParseInt_ex s w hs hN)
  have HN := hid (fun w' (k : Ext w w') => hN.ext k)
  have HC := hid (fun m h => parse_dec m h)
  clear hN
  go_enter Tryz.func89, Tryz.ntmps89
  go_wp2_with fail
  refine HP.out.mono ?_
  rintro e w1 (⟨z, rfl, hz, hx⟩ | ⟨z, t, p, rfl, hz, hx⟩)
  · have hb := Lib.parseIntB_bounds hz
    have hb1 : -9223372036854775808 ≤ z := by have := hb.1; simp at this; omega
    have hb2 : z ≤ 9223372036854775807 := by have := hb.2; simp at this; omega
    have HZ := hid hz
    have HD := hid (Decimal_all z w1 hb1 hb2 (HN.out _ hx))
    clear hb hz
    obtain ⟨D, hD⟩ : ∃ D, ofI z = D := ⟨_, rfl⟩
    have HDD := hid hD
    rw [hD] at HD
    clear hD
    go_wp2_with fail
    refine HD.out.mono ?_
    rintro e w2 ⟨rfl, hx2⟩
    have hE := hx.trans hx2
    clear hx hx2
    by_cases hq : D = s
    · have hq1 : (D.toList == s.toList) = true := by rw [bytes_beqN, decide_eq_true hq]
      go_wp2_with fail
      go_returns
      refine ⟨z, true, rfl, ⟨hb1, hb2, fun _ h1 h2 => ?_, fun m h1 h2 h3 => ⟨?_, rfl⟩⟩, hE⟩
      · rw [← hq, ← HDD.out, ← ofI_nat, show ((z.toNat : Nat) : Int) = z by omega]
      · have := HC.out m h2
        rw [← h3, HZ.out] at this
        injection this
    · have hq1 : (D.toList == s.toList) = false := by rw [bytes_beqN, decide_eq_false hq]
      go_wp2_with fail
      go_returns
      refine ⟨0, false, rfl, ⟨by omega, by omega, (fun h => by cases h), fun m h1 h2 h3 => ?_⟩, hE⟩
      have := HC.out m h2
      rw [← h3, HZ.out] at this
      injection this with this
      exact absurd (by rw [← HDD.out, this, ofI_nat, h3]) hq
  · go_wp2_with fail
    go_returns
    refine ⟨0, false, rfl, ⟨by omega, by omega, (fun h => by cases h), fun m h1 h2 h3 => ?_⟩, hx⟩
    have := HC.out m h2
    rw [← h3] at this
    exact absurd this (hz _)
set_option maxHeartbeats 800000 in
theorem ReadDecimal_ex (s : ByteArray) (w : World) (hs : s.size ≤ 1048576) (hN : NumF w) : Calls Tryz.prog 49 #[.string s] w (RetN s w) := by
  have HT := hid (Tryz.strings_TrimPrefix s ⟨#[45]⟩)
  have HA := hid (anyDecimal_ex s w hs hN)
  have HZ : Hid (∀ m : Nat, 1 ≤ m → m < 100 → s = decS m → (⟨(Lib.trimPrefix s.data.toList [45]).toArray⟩ : ByteArray).size ≤ 2) := hid (by
    intro m h1 h2 h3
    obtain ⟨a, r, e, ha, hb⟩ := dec_head m h2
    have h4 := decS_size m h2
    rw [← h3] at e h4
    have : Lib.trimPrefix s.data.toList [45] = s.data.toList := by
      unfold Lib.trimPrefix Lib.hasPrefix
      rw [e]
      have : ([45] : List UInt8).isPrefixOf (a :: r) = false := by
        simp only [List.isPrefixOf, Bool.and_true]
        rw [beq_eq_false_iff_ne]
        intro q
        rw [← q] at ha
        exact absurd ha (by decide)
      rw [this]
      rfl
    rw [this]
    exact h4)
  obtain ⟨T, hT⟩ : ∃ T : ByteArray, (⟨(Lib.trimPrefix s.data.toList [45]).toArray⟩ : ByteArray) = T := ⟨_, rfl⟩
  have HT2 : Hid (∀ w, Calls Tryz.prog 50 #[.string s, .string ⟨#[45]⟩] w (Same (.string T) w)) := hid (fun w => (HT.out w).mono (by rintro e w' ⟨rfl, rfl⟩; exact ⟨by rw [← hT], rfl⟩))
  rw [hT] at HZ
  clear hT HT hN
  by_cases hl : 18 < T.size
  · have hl1 : (18 : Int) < (T.size : Int) := by omega
    go_enter Tryz.func49, Tryz.ntmps49
    go_wp2_with fail
    refine (HT2.out _).mono ?_
    rintro e w1 ⟨rfl, rfl⟩
    go_wp2_with fail
    go_returns
    refine ⟨0, false, rfl, ⟨by omega, by omega, (fun h => by cases h), fun m h1 h2 h3 => ?_⟩, Ext.refl _⟩
    have := HZ.out m h1 h2 h3
    omega
  · have hl1 : ¬ (18 : Int) < (T.size : Int) := by omega
    go_enter Tryz.func49, Tryz.ntmps49
    go_wp2_with fail
    refine (HT2.out _).mono ?_
    rintro e w1 ⟨rfl, rfl⟩
    go_wp2_with fail
    refine HA.out.mono ?_
    rintro e w2 ⟨z, ok, rfl, hz, hx⟩
    have HZ2 := hid hz
    clear hz
    go_wp2_with fail
    go_returns
    exact ⟨z, ok, rfl, HZ2.out, hx⟩
end Go.Proofs.YtmohfdfjlgekaaaGreatDoor
end
