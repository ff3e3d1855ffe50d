/- Numbers read from texts, by the reference. Conditions at each. -/
import Derived.Test.YtmohfdfjlgekaaaGreatDoorMg15
namespace Go.Proofs.YtmohfdfjlgekaaaGreatDoor
set_option linter.unusedVariables false
set_option linter.unusedSimpArgs false
open Go Go.RowKit
def RetXN (n : Int) (w : World) (e : Ending) (w' : World) : Prop := ∃ d : ByteArray, e = .returned (.string d) ∧ (∀ m : Nat, 1 ≤ m → m < 100 → n = m → d = decS m) ∧ Ext w w'
theorem pow_pos10 (f : Nat) : 0 < 10 ^ f := Nat.pow_pos (by omega)
set_option maxHeartbeats 1600000 in
theorem l01Dec_ex (n : Int) (w : World) (h0 : -1000000000000000000 < n) (h1 : n < 1000000000000000000) : Calls Tryz.prog 94 #[.int .i64 n] w (RetXN n w) := by
  by_cases hs : 0 < n ∧ n < 100
  · obtain ⟨m, rfl⟩ : ∃ m : Nat, n = m := ⟨n.toNat, by omega⟩
    refine (l01Dec_any m w (by omega) (by omega)).mono ?_
    rintro e w' ⟨rfl, hx⟩
    exact ⟨_, rfl, fun k _ _ h => by rw [show m = k by omega], hx⟩
  have HNO : Hid (∀ d : ByteArray, ∀ m : Nat, 1 ≤ m → m < 100 → n = m → d = decS m) := hid (fun d m a b c => absurd ⟨by omega, by omega⟩ hs)
  clear hs
  go_enter Tryz.func94, Tryz.ntmps94
  go_wp2_with fail
  go_loopw [3, 4] (fun s t wr => ∃ (z : Int) (q c f : Nat) (a : Option Addr) (acc : List UInt8), t = .int .i64 z ∧ s = .slice a q c ∧ Hid (q = acc.length) ∧ q + f ≤ 18 ∧ Hid (z.natAbs < 10 ^ f) ∧ -1000000000000000000 < z ∧ z < 1000000000000000000 ∧ Hid (Own wr w.heap.size 5 1 a acc.length c (bytesV acc)) ∧ Ext w wr) (fun _ t _ => (intOf t).natAbs)
  case atStart => exact ⟨n, 0, 0, 18, some ⟨w.heap.size, 0, none⟩, [], rfl, rfl, hid rfl, by omega, hid (by omega), h0, h1, hid (Own.empty _ _ _ _ _), (Ext.refl w).alloc _⟩
  case round =>
    clear h0 h1
    obtain ⟨z, q, c, f, a, acc, rfl, rfl, HQ, hqf, HZ, h0, h1, HO, hx⟩ := hrel
    by_cases hz : z = 0
    · subst hz
      by_cases hq0 : q = 0
      · subst hq0
        go_wp2_with fail
        go_returns
        exact ⟨_, rfl, HNO.out _, hx⟩
      · by_cases hn : n < 0
        · obtain ⟨S, hS⟩ : ∃ S : ByteArray, (⟨acc.toArray⟩ : ByteArray) = S := ⟨_, rfl⟩
          have hSz : S.size ≤ 18 := by
            rw [← hS]
            show acc.toArray.size ≤ 18
            rw [List.size_toArray, ← HQ.out]
            omega
          have hno : ¬ 9223372036854775807 < 1 + S.size := by omega
          go_wp2_with (refine wpList_str rfl _ 22 9 rfl Tryz.underlying22 Tryz.underlying5 Tryz.underlying9 rfl (l := acc) HQ.out HO.out.rd ?_; rw [hS])
          go_returns
          exact ⟨_, rfl, HNO.out _, hx⟩
        · go_wp2_with (refine wpList_str rfl _ 22 9 rfl Tryz.underlying22 Tryz.underlying5 Tryz.underlying9 rfl (l := acc) HQ.out HO.out.rd ?_)
          go_returns
          exact ⟨_, rfl, HNO.out _, hx⟩
    · have hf : 0 < f := by
        rcases Nat.eq_zero_or_pos f with e | e
        · exfalso
          have := HZ.out
          rw [e] at this
          omega
        · exact e
      obtain ⟨g, rfl⟩ : ∃ g, f = g + 1 := ⟨f - 1, by omega⟩
      have hzi : (z == 0) = false := by simpa using hz
      have t1 := Int.tmod_add_mul_tdiv z 10
      have t2 : z.tmod 10 < 10 := Int.tmod_lt_of_pos z (by omega)
      have t3 : -10 < z.tmod 10 := by
        have := Int.tmod_lt_of_pos (-z) (show (0 : Int) < 10 by omega)
        rw [Int.neg_tmod] at this
        omega
      have t4 : (0 ≤ z → 0 ≤ z.tmod 10) := fun h => Int.tmod_nonneg 10 h
      have t5 : (z ≤ 0 → z.tmod 10 ≤ 0) := fun h => by
        have := Int.tmod_nonneg 10 (show 0 ≤ -z by omega)
        rw [Int.neg_tmod] at this
        omega
      obtain ⟨r, hr⟩ : ∃ r, z.tmod 10 = r := ⟨_, rfl⟩
      obtain ⟨d, hd⟩ : ∃ d, z.tdiv 10 = d := ⟨_, rfl⟩
      rw [hr, hd] at t1
      rw [hr] at t2 t3 t4 t5
      have hdn : d.natAbs < z.natAbs := by omega
      have HZ2 : Hid (d.natAbs < 10 ^ g) := hid (by have := HZ.out; rw [Nat.pow_succ] at this; omega)
      have hd0 : -1000000000000000000 < d := by omega
      have hd1 : d < 1000000000000000000 := by omega
      have qw : IntKind.i64.wrap d = d := IntWalk.i64_in _ (by omega)
      have qr : IntKind.i64.wrap r = r := IntWalk.i64_in _ (by omega)
      have HW := hid hx.size
      clear t1 t4 t5
      by_cases hr0 : r < 0
      · obtain ⟨e, he⟩ : ∃ e : Nat, (e : Int) = -r := ⟨r.natAbs, by omega⟩
        have he10 : e < 10 := by omega
        have HU : Hid (((UInt8.ofNat (48 + e)).toNat : Int) = 48 + (e : Int)) := hid (by simp; omega)
        obtain ⟨x, hx8⟩ : ∃ x : UInt8, UInt8.ofNat (48 + e) = x := ⟨_, rfl⟩
        rw [hx8] at HU
        clear hx8
        have he2 : -r = (e : Int) := by omega
        clear he
        have HOa : Hid (Own (wr.alloc (.cells #[.int .u8 (48 + (e : Int))] 5)) w.heap.size 5 1 (some ⟨wr.heap.size, 0, none⟩) 1 1 (bytesV [x])) := hid (by
          have := (own_lit wr 5 [.int .u8 (48 + (e : Int))] 1 rfl (by unfold maxLen; omega)).mono HW.out
          rw [← HU.out] at this ⊢
          exact this)
        have HRd := hid (HO.out.rd.ext ((Ext.refl wr).alloc (.cells #[.int .u8 (48 + (e : Int))] 5)))
        go_wp2_with (at_builtin; refine wpList_appendm rfl _ _ 22 rfl El_u8 rfl rfl (bytesV acc) HRd.out (by rw [bytesV_length, HQ.out]; omega) bytesV_one HOa.out (by have := HW.out; simp; omega) (by unfold maxLen; omega) (by omega) ?_; intro a2 c2 w3 hown2 hb2; have HO2 := hid hown2; have HE2 := hid ((hx.alloc _).thenBelow hb2 (by simp)); clear hown2 hb2)
        go_roundw
        case rel => exact ⟨d, q + 1, c2, g, a2, x :: acc, by go_num, by rw [Nat.add_comm], hid (by rw [HQ.out]; rfl), by omega, HZ2, hd0, hd1, hid (by rw [List.length_cons, ← HQ.out, Nat.add_comm q 1]; exact HO2.out), HE2.out⟩
        case measure => simp [intOf]; omega
      · obtain ⟨e, he⟩ : ∃ e : Nat, r = (e : Int) := ⟨r.natAbs, by omega⟩
        have he10 : e < 10 := by omega
        have HU : Hid (((UInt8.ofNat (48 + e)).toNat : Int) = 48 + (e : Int)) := hid (by simp; omega)
        obtain ⟨x, hx8⟩ : ∃ x : UInt8, UInt8.ofNat (48 + e) = x := ⟨_, rfl⟩
        rw [hx8] at HU
        clear hx8
        subst he
        have HOa : Hid (Own (wr.alloc (.cells #[.int .u8 (48 + (e : Int))] 5)) w.heap.size 5 1 (some ⟨wr.heap.size, 0, none⟩) 1 1 (bytesV [x])) := hid (by
          have := (own_lit wr 5 [.int .u8 (48 + (e : Int))] 1 rfl (by unfold maxLen; omega)).mono HW.out
          rw [← HU.out] at this ⊢
          exact this)
        have HRd := hid (HO.out.rd.ext ((Ext.refl wr).alloc (.cells #[.int .u8 (48 + (e : Int))] 5)))
        go_wp2_with (at_builtin; refine wpList_appendm rfl _ _ 22 rfl El_u8 rfl rfl (bytesV acc) HRd.out (by rw [bytesV_length, HQ.out]; omega) bytesV_one HOa.out (by have := HW.out; simp; omega) (by unfold maxLen; omega) (by omega) ?_; intro a2 c2 w3 hown2 hb2; have HO2 := hid hown2; have HE2 := hid ((hx.alloc _).thenBelow hb2 (by simp)); clear hown2 hb2)
        go_roundw
        case rel => exact ⟨d, q + 1, c2, g, a2, x :: acc, by go_num, by rw [Nat.add_comm], hid (by rw [HQ.out]; rfl), by omega, HZ2, hd0, hd1, hid (by rw [List.length_cons, ← HQ.out, Nat.add_comm q 1]; exact HO2.out), HE2.out⟩
        case measure => simp [intOf]; omega
theorem ba_list0 {s : ByteArray} (h : s.size = 0) : s = ⟨#[]⟩ := by
  apply ByteArray.ext
  exact Array.eq_empty_of_size_eq_zero h
def digB (c : Int) : Bool := decide (48 ≤ c ∧ c ≤ 57)
theorem l01Digit_any (c : Int) (w : World) : Calls Tryz.prog 95 #[.int .u8 c] w (Same (.bool (digB c)) w) := by
  have H : Hid (digB c = decide (48 ≤ c ∧ c ≤ 57)) := hid rfl
  go_enter Tryz.func95, Tryz.ntmps95
  go_wp2
  all_goals (go_returns; refine ⟨?_, rfl⟩; rw [H.out]; simp; try omega)
def valD (l : List UInt8) : Nat := l.foldl (fun a u => 10 * a + (u.toNat - 48)) 0
theorem valD_succ (l : List UInt8) (k : Nat) (u : UInt8) (h : l[k]? = some u) : valD (l.take (k + 1)) = 10 * valD (l.take k) + (u.toNat - 48) := by
  obtain ⟨h1, h2⟩ := List.getElem?_eq_some_iff.1 h
  unfold valD
  rw [List.take_succ_eq_append_getElem h1, List.foldl_append, h2]
  rfl
theorem dec_facts (m : Nat) (h : m < 100) : valD (decS m).data.toList = m ∧ (∀ u ∈ (decS m).data.toList, 48 ≤ u.toNat ∧ u.toNat ≤ 57) ∧ 1 ≤ (decS m).size := by
  show valD (Lib.decDigits m) = m ∧ (∀ u ∈ Lib.decDigits m, _) ∧ 1 ≤ (Lib.decDigits m).toArray.size
  by_cases h1 : m < 10
  · rw [Lib.decDigits_one h1]
    refine ⟨?_, ?_, by simp⟩
    · simp [valD]; omega
    · intro u hu
      simp only [List.mem_singleton] at hu
      subst hu
      simp; omega
  · rw [Lib.decDigits_two h1 h]
    refine ⟨?_, ?_, by simp⟩
    · simp [valD]; omega
    · intro u hu
      simp only [List.mem_cons, List.not_mem_nil, or_false] at hu
      rcases hu with rfl | rfl <;> (simp; omega)
set_option maxRecDepth 100000 in
set_option maxHeartbeats 4000000 in
theorem l01Number_ex (s : ByteArray) (w : World) (hs : s.size ≤ 1048576) : Calls Tryz.prog 57 #[.string s] w (RetN s w) := by
  have HDG := hid l01Digit_any
  have HDF := hid dec_facts
  have HDZ := hid decS_size
  have HX := hid (fun z w' a b => l01Dec_ex z w' a b)
  by_cases hse : s.size = 0
  · have hemp : s = ⟨#[]⟩ := ba_list0 hse
    have HNO : Hid (∀ m : Nat, 1 ≤ m → m < 100 → s = decS m → False) := hid (fun m a b c => by
      have := (HDF.out m b).2.2
      rw [← c] at this
      omega)
    subst hemp
    go_enter Tryz.func57, Tryz.ntmps57
    go_wp2_with fail
    go_returns
    exact ⟨0, false, rfl, ⟨by omega, by omega, (fun h => by cases h), fun m h1 h2 h3 => (HNO.out m h1 h2 h3).elim⟩, Ext.refl _⟩
  have hs0 : 0 < s.size := by omega
  have hne : s.toList.isEmpty = false := by
    rw [← Bool.not_eq_true, List.isEmpty_iff]
    intro e
    rw [Lib.toList_data] at e
    have : s.data.toList.length = 0 := by rw [e]; rfl
    rw [Array.length_toList] at this
    exact hse this
  obtain ⟨u0, hu0⟩ : ∃ u, s[0] = u := ⟨_, rfl⟩
  by_cases h45 : u0.toNat = 45
  · have h45i : ((u0.toNat : Int) == 45) = true := by rw [h45]; rfl
    obtain ⟨T, hT⟩ : ∃ T, s.extract 1 s.size = T := ⟨_, rfl⟩
    have hTs : T.size = s.size - 1 := by rw [← hT, ByteArray.size_extract]; omega
    have HS : Hid (∀ m : Nat, 1 ≤ m → m < 100 → s = decS m → False) := hid (fun m a b c => by
      have h1 := (HDF.out m b).2.1 u0 (by
        rw [← c, ← hu0]
        exact Array.mem_toList_iff.2 (Array.getElem_mem _))
      omega)
    have hlt2 : (T.size : Int) < (s.size : Int) := by omega
    have HTs := hid hTs
    have hT20 : T.size ≤ 1048576 := by omega
    clear hTs
    have hsizes := hs
    by_cases h18 : 18 < T.size
    · have h18i : (18 : Int) < (T.size : Int) := by omega
      have h1i : ¬ (T.size : Int) < 1 := by omega
      go_enter Tryz.func57, Tryz.ntmps57
      go_wp2_with fail
      go_returns
      exact ⟨0, false, rfl, ⟨by omega, by omega, (fun h => by cases h), fun m h1 h2 h3 => (HS.out m h1 h2 h3).elim⟩, Ext.refl _⟩
    by_cases h1 : T.size < 1
    · have h1i : (T.size : Int) < 1 := by omega
      go_enter Tryz.func57, Tryz.ntmps57
      go_wp2_with fail
      go_returns
      exact ⟨0, false, rfl, ⟨by omega, by omega, (fun h => by cases h), fun m h1 h2 h3 => (HS.out m h1 h2 h3).elim⟩, Ext.refl _⟩
    have h18i : ¬ (18 : Int) < (T.size : Int) := by omega
    have h1i : ¬ (T.size : Int) < 1 := by omega
    go_enter Tryz.func57, Tryz.ntmps57
    go_wp2_with fail
    go_loopw [5, 6] (fun nv iv wr => ∃ k N : Nat, k ≤ T.size ∧ iv = .int .i64 k ∧ nv = .int .i64 N ∧ Hid (N = valD (T.data.toList.take k)) ∧ Hid (N < 10 ^ k) ∧ Ext w wr) (fun _ iv _ => T.size - (intOf iv).toNat)
    case atStart => exact ⟨0, 0, by omega, rfl, rfl, hid rfl, hid (by simp), Ext.refl _⟩
    case round =>
      obtain ⟨k, N, hk, rfl, rfl, HN, HB, hE⟩ := hrel
      by_cases hlt : k < T.size
      · obtain ⟨u, hu⟩ : ∃ u, T[k] = u := ⟨_, rfl⟩
        have hget : T.data.toList[k]? = some u := by rw [Array.getElem?_toList, ← hu]; exact Array.getElem?_eq_getElem hlt
        have HV := hid (valD_succ T.data.toList k u hget)
        have hN17 : N < 100000000000000000 := by
          have h1 := HB.out
          have h2 : 10 ^ k ≤ 10 ^ 17 := Nat.pow_le_pow_right (by omega) (by omega)
          omega
        have HU := hid (List.mem_of_getElem? hget)
        clear hget
        cases hdg : digB (u.toNat : Int)
        · have HDu := hid (fun w' => l01Digit_any (u.toNat : Int) w')
          rw [hdg] at HDu
          have HNG : Hid (¬ (48 ≤ u.toNat ∧ u.toNat ≤ 57)) := hid (by unfold digB at hdg; rw [decide_eq_false_iff_not] at hdg; omega)
          clear hdg
          go_wp2_with fail
          refine (HDu.out _).mono ?_
          rintro e w1 ⟨rfl, rfl⟩
          go_wp2_with fail
          go_returns
          exact ⟨0, false, rfl, ⟨by omega, by omega, (fun h => by cases h), fun m h1 h2 h3 => (HS.out m h1 h2 h3).elim⟩, hE⟩
        · have HDu := hid (fun w' => l01Digit_any (u.toNat : Int) w')
          rw [hdg] at HDu
          have hdi : 48 ≤ u.toNat ∧ u.toNat ≤ 57 := by unfold digB at hdg; rw [decide_eq_true_iff] at hdg; omega
          obtain ⟨d, hd⟩ : ∃ d : Nat, u.toNat - 48 = d := ⟨_, rfl⟩
          rw [hd] at HV
          have HV2 : Hid (10 * N + d = valD (T.data.toList.take (k + 1))) := hid (by rw [HV.out, HN.out])
          have hd9 : d ≤ 9 := by omega
          have hdq : (u.toNat : Int) - 48 = (d : Int) := by omega
          have HB2 : Hid (10 * N + d < 10 ^ (k + 1)) := hid (by have := HB.out; rw [Nat.pow_succ]; omega)
          obtain ⟨N2, hN2⟩ : ∃ N2 : Nat, 10 * N + d = N2 := ⟨_, rfl⟩
          have hwr : IntKind.i64.wrap (10 * (N : Int) + (d : Int)) = (N2 : Int) := by rw [IntWalk.i64_in _ (by omega)]; omega
          rw [hN2] at HV2 HB2
          clear hN2
          clear hdg hdi hd
          go_wp2_with fail
          refine (HDu.out _).mono ?_
          rintro e w1 ⟨rfl, rfl⟩
          go_wp2_with fail
          go_roundw
          case rel => exact ⟨k + 1, N2, by omega, by go_num, rfl, HV2, HB2, hE⟩
          case measure => simp [intOf]; omega
      · obtain rfl : k = T.size := by omega
        have hN18 : N < 1000000000000000000 := by
          have h1 := HB.out
          have h2 : 10 ^ T.size ≤ 10 ^ 18 := Nat.pow_le_pow_right (by omega) (by omega)
          omega
        have HXn := hid (HX.out (-(N : Int)))
        obtain ⟨z, hz⟩ : ∃ z : Int, -(N : Int) = z := ⟨_, rfl⟩
        have hz0 : -1000000000000000000 < z := by omega
        have hz1 : z < 1000000000000000000 := by omega
        rw [hz] at HXn
        go_wp2_with fail
        refine (HXn.out _ hz0 hz1).mono ?_
        rintro e w2 ⟨d, rfl, hd, hx⟩
        have HD := hid hd
        have hE2 := hE.trans hx
        clear hx hd
        by_cases hq : d = s
        · have hq1 : (d.toList == s.toList) = true := by rw [bytes_beqN, decide_eq_true hq]
          go_wp2_with fail
          go_returns
          exact ⟨z, true, rfl, ⟨by omega, by omega, fun _ h1 h2 => by rw [← hq]; exact HD.out z.toNat (by omega) (by omega) (by omega), fun m h1 h2 h3 => (HS.out m h1 h2 h3).elim⟩, hE2⟩
        · have hq1 : (d.toList == s.toList) = false := by rw [bytes_beqN, decide_eq_false hq]
          go_wp2_with fail
          go_returns
          exact ⟨0, false, rfl, ⟨by omega, by omega, (fun h => by cases h), fun m h1 h2 h3 => (HS.out m h1 h2 h3).elim⟩, hE2⟩
  · have h45i : ((u0.toNat : Int) == 45) = false := by rw [beq_eq_false_iff_ne]; omega
    have hsizes := hs
    by_cases h18 : 18 < s.size
    · have h18i : (18 : Int) < (s.size : Int) := by omega
      have h1i : ¬ (s.size : Int) < 1 := by omega
      go_enter Tryz.func57, Tryz.ntmps57
      go_wp2_with fail
      go_returns
      exact ⟨0, false, rfl, ⟨by omega, by omega, (fun h => by cases h), fun m h1 h2 h3 => by
        have := HDZ.out m h2
        rw [← h3] at this
        omega⟩, Ext.refl _⟩
    by_cases h1 : s.size < 1
    · omega
    have h18i : ¬ (18 : Int) < (s.size : Int) := by omega
    have h1i : ¬ (s.size : Int) < 1 := by omega
    go_enter Tryz.func57, Tryz.ntmps57
    go_wp2_with fail
    go_loopw [5, 6] (fun nv iv wr => ∃ k N : Nat, k ≤ s.size ∧ iv = .int .i64 k ∧ nv = .int .i64 N ∧ Hid (N = valD (s.data.toList.take k)) ∧ Hid (N < 10 ^ k) ∧ Ext w wr) (fun _ iv _ => s.size - (intOf iv).toNat)
    case atStart => exact ⟨0, 0, by omega, rfl, rfl, hid rfl, hid (by simp), Ext.refl _⟩
    case round =>
      obtain ⟨k, N, hk, rfl, rfl, HN, HB, hE⟩ := hrel
      by_cases hlt : k < s.size
      · obtain ⟨u, hu⟩ : ∃ u, s[k] = u := ⟨_, rfl⟩
        have hget : s.data.toList[k]? = some u := by rw [Array.getElem?_toList, ← hu]; exact Array.getElem?_eq_getElem hlt
        have HV := hid (valD_succ s.data.toList k u hget)
        have hN17 : N < 100000000000000000 := by
          have h1 := HB.out
          have h2 : 10 ^ k ≤ 10 ^ 17 := Nat.pow_le_pow_right (by omega) (by omega)
          omega
        have HU := hid (List.mem_of_getElem? hget)
        clear hget
        cases hdg : digB (u.toNat : Int)
        · have HDu := hid (fun w' => l01Digit_any (u.toNat : Int) w')
          rw [hdg] at HDu
          have HNG : Hid (¬ (48 ≤ u.toNat ∧ u.toNat ≤ 57)) := hid (by unfold digB at hdg; rw [decide_eq_false_iff_not] at hdg; omega)
          clear hdg
          go_wp2_with fail
          refine (HDu.out _).mono ?_
          rintro e w1 ⟨rfl, rfl⟩
          go_wp2_with fail
          go_returns
          exact ⟨0, false, rfl, ⟨by omega, by omega, (fun h => by cases h), fun m h1 h2 h3 => by
            exact (HNG.out ((HDF.out m h2).2.1 u (by rw [← h3]; exact HU.out))).elim⟩, hE⟩
        · have HDu := hid (fun w' => l01Digit_any (u.toNat : Int) w')
          rw [hdg] at HDu
          have hdi : 48 ≤ u.toNat ∧ u.toNat ≤ 57 := by unfold digB at hdg; rw [decide_eq_true_iff] at hdg; omega
          obtain ⟨d, hd⟩ : ∃ d : Nat, u.toNat - 48 = d := ⟨_, rfl⟩
          rw [hd] at HV
          have HV2 : Hid (10 * N + d = valD (s.data.toList.take (k + 1))) := hid (by rw [HV.out, HN.out])
          have hd9 : d ≤ 9 := by omega
          have hdq : (u.toNat : Int) - 48 = (d : Int) := by omega
          have HB2 : Hid (10 * N + d < 10 ^ (k + 1)) := hid (by have := HB.out; rw [Nat.pow_succ]; omega)
          obtain ⟨N2, hN2⟩ : ∃ N2 : Nat, 10 * N + d = N2 := ⟨_, rfl⟩
          have hwr : IntKind.i64.wrap (10 * (N : Int) + (d : Int)) = (N2 : Int) := by rw [IntWalk.i64_in _ (by omega)]; omega
          rw [hN2] at HV2 HB2
          clear hN2
          clear hdg hdi hd
          go_wp2_with fail
          refine (HDu.out _).mono ?_
          rintro e w1 ⟨rfl, rfl⟩
          go_wp2_with fail
          go_roundw
          case rel => exact ⟨k + 1, N2, by omega, by go_num, rfl, HV2, HB2, hE⟩
          case measure => simp [intOf]; omega
      · obtain rfl : k = s.size := by omega
        have hN18 : N < 1000000000000000000 := by
          have h1 := HB.out
          have h2 : 10 ^ s.size ≤ 10 ^ 18 := Nat.pow_le_pow_right (by omega) (by omega)
          omega
        have HXn := hid (HX.out (N : Int))
        have HNV : Hid (∀ m : Nat, m < 100 → s = decS m → N = m) := hid (fun m a b => by
          have := (HDF.out m a).1
          rw [← b] at this
          rw [HN.out, ← this, ← list_len s, List.take_length])
        obtain ⟨z, hz⟩ : ∃ z : Int, (N : Int) = z := ⟨_, rfl⟩
        have hz0 : -1000000000000000000 < z := by omega
        have hz1 : z < 1000000000000000000 := by omega
        have HZN := hid hz
        rw [hz] at HXn
        go_wp2_with fail
        refine (HXn.out _ hz0 hz1).mono ?_
        rintro e w2 ⟨d, rfl, hd, hx⟩
        have HD := hid hd
        have hE2 := hE.trans hx
        clear hx hd
        by_cases hq : d = s
        · have hq1 : (d.toList == s.toList) = true := by rw [bytes_beqN, decide_eq_true hq]
          go_wp2_with fail
          go_returns
          exact ⟨z, true, rfl, ⟨by omega, by omega, fun _ h1 h2 => by rw [← hq]; exact HD.out z.toNat (by omega) (by omega) (by omega), fun m h1 h2 h3 => ⟨by rw [← HZN.out, HNV.out m h2 h3], rfl⟩⟩, hE2⟩
        · have hq1 : (d.toList == s.toList) = false := by rw [bytes_beqN, decide_eq_false hq]
          go_wp2_with fail
          go_returns
          exact ⟨0, false, rfl, ⟨by omega, by omega, (fun h => by cases h), fun m h1 h2 h3 => by
            exact (hq (by rw [HD.out m h1 h2 (by rw [← HZN.out, HNV.out m h2 h3]), h3])).elim⟩, hE2⟩
end Go.Proofs.YtmohfdfjlgekaaaGreatDoor
