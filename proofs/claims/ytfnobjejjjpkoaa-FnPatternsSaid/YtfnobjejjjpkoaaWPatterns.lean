/- FnPatterns: whatever it is given, it says yes. -/
import Derived.Test.YtfnobjejjjpkoaaDrawP
import Derived.Test.YtfnobjejjjpkoaaF6
import Derived.Test.YtfnobjejjjpkoaaCh10c
import Derived.Test.YtfnobjejjjpkoaaCh10i
import Derived.Test.YtfnobjejjjpkoaaRow3
namespace Go.Proofs.Ytfnobjejjjpkoaa
set_option linter.unusedVariables false
set_option linter.unusedSimpArgs false
open Go Go.RowKit Go.ChangeShapes Go.WideShapes Go.ChangeAt
open Go.ChangeMaps (open_string shut_string)
theorem letB_self (c : Int) (h : smallB c = true) : letB c c = true := by
  simp only [smallB, decide_eq_true_eq] at h
  unfold letB
  rw [if_neg (by omega), if_neg (by omega), if_neg (by omega)]
  simp
theorem matchL_self : ∀ l : List UInt8, (∀ x ∈ l, smallB (x.toNat : Int) = true) → matchL l l = true
  | [], _ => by rw [matchL]; rfl
  | x :: l, h => by
    have hx := h x (List.mem_cons_self ..)
    have h42 : ¬ (x.toNat : Int) = 42 := by
      simp only [smallB, decide_eq_true_eq] at hx
      omega
    rw [matchL, if_neg h42, letB_self _ hx, matchL_self l (fun y hy => h y (List.mem_cons_of_mem _ hy))]
    rfl
theorem matchL_star : ∀ l : List UInt8, matchL [42] l = true
  | [] => by
    rw [matchL, matchL]
    rfl
  | x :: l => by
    rw [matchL, if_pos (by rfl), matchL_star l, Bool.or_true]
theorem small_mem {s : ByteArray} (h : allB smallB s = true) : ∀ x ∈ s.data.toList, smallB (x.toNat : Int) = true := by
  intro x hx
  obtain ⟨k, hk, rfl⟩ := List.getElem_of_mem hx
  have hk' : k < s.size := by simpa using hk
  cases hg : smallB (s[k].toNat : Int)
  · rw [allB_no smallB s k hk' hg] at h; cases h
  · exact hg
theorem count_small (l : List UInt8) (h : ∀ x ∈ l, smallB (x.toNat : Int) = true) : Lib.countByte l 42 = 0 := by
  refine List.count_eq_zero.2 (fun hm => ?_)
  have := h _ hm
  exact absurd this (by decide)
theorem mp_self {s : ByteArray} (h : wordOk s = true) : mpOk s s = true := by
  have h0 := h
  unfold wordOk at h
  simp only [Bool.and_eq_true, decide_eq_true_eq] at h
  obtain ⟨h1, h2⟩ := h
  have hm := small_mem h2
  unfold mpOk patOk
  rw [h0, matchL_self _ hm, count_small _ hm]
  have h3 : allB patB s = true := by
    unfold allB
    rw [List.all_eq_true]
    intro x hx
    unfold patB
    rw [hm x hx]
    rfl
  rw [h3]
  simp [h1]
theorem mp_word {l : List ByteArray} {p s : ByteArray} (h : lexOk l = true) (hp : patOk p = true) (hs : s ∈ l) : inL (wmL l p) s = mpOk p s := by
  unfold mpOk wmL
  rw [hp, lex_word h s hs, if_pos h, if_pos rfl, Bool.true_and, Bool.true_and]
  cases hm : matchL p.data.toList s.data.toList
  · cases hq : inL (l.filter (fun s => matchL p.data.toList s.data.toList)) s
    · rfl
    · have := (List.mem_filter.1 (inL_iff.1 hq)).2
      rw [hm] at this
      cases this
  · exact inL_iff.2 (List.mem_filter.2 ⟨hs, hm⟩)
theorem wm_star {l : List ByteArray} (h : lexOk l = true) : wmL l ⟨#[42]⟩ = l ∧ wmC l ⟨#[42]⟩ = 0 := by
  have hp : patOk ⟨#[42]⟩ = true := by decide +kernel
  unfold wmL wmC
  rw [if_pos h, if_pos h, if_pos hp, if_pos hp]
  refine ⟨?_, rfl⟩
  rw [List.filter_eq_self]
  intro s hs
  exact matchL_star _
theorem wm_ok {l : List ByteArray} {p : ByteArray} (h : wmC l p = 0) : lexOk l = true ∧ patOk p = true := by
  unfold wmC at h
  split at h
  · split at h
    · exact ⟨‹_›, ‹_›⟩
    · simp at h
  · simp at h
set_option maxRecDepth 100000 in
set_option maxHeartbeats 4000000 in
theorem walk_FnPatterns (a : Option Addr) (cc : Nat) (l : List UInt8) (w : World) (hr : Rd w a (bytesV l)) (hl : l.length ≤ maxLen) :
    Calls Try.prog 5 #[.slice a l.length cc] w (Ret (.bool true) w) := by
  have HR := hid hr
  have HF := hid (f6big_any a cc l w hl)
  clear hr
  by_cases hbig : 4096 < l.length
  · rw [show decide (4096 < l.length) = true by simpa using hbig] at HF
    clear hbig
    go_enter Try.func5, Try.ntmps5
    go_wp2_with fail
    refine HF.out.mono ?_
    rintro e w' ⟨rfl, rfl⟩
    go_wp2_with fail
    go_returns
    exact ⟨rfl, Ext.refl _⟩
  rw [show decide (4096 < l.length) = false by simpa using hbig] at HF
  have HD := hid (DrawWordsMatching_any a cc l w HR.out (by omega))
  have HP := hid (fun w' (x : Ext w w') => DrawMatchPattern_any a cc l w' (HR.out.ext x) (by omega))
  clear hbig
  go_enter Try.func5, Try.ntmps5
  go_wp2_with fail
  refine HF.out.mono ?_
  rintro e w' ⟨rfl, rfl⟩
  go_wp2_with fail
  refine HD.out.mono ?_
  rintro e w1 ⟨v, rfl, ⟨u, p, rfl, ⟨A, C, L, rfl, ho, hL, hLs⟩, hp⟩, hx⟩
  have hE := hx
  have RL := hid ho.rd
  have HLs := hid hLs
  have HW := hid (fun w' (h : Rd w' A (strsV L)) => WordsMatching_any A C L p w' h (by omega) (fun s hs => Nat.le_trans (HLs.out s hs) (by omega)) (by omega))
  have HWs := hid (fun w' (h : Rd w' A (strsV L)) => sWordsMatching_any A C L p w' h (by omega) (fun s hs => Nat.le_trans (HLs.out s hs) (by omega)) (by omega))
  have HV := hid (ValidPattern_any p · (by omega))
  have HVs := hid (sValidPattern_any p · (by omega))
  have HW9 := hid (fun w' (h : Rd w' A (strsV L)) => WordsMatching_any A C L ⟨#[42]⟩ w' h (by omega) (fun s hs => Nat.le_trans (HLs.out s hs) (by omega)) (by decide))
  have HM := hid (fun s w' (h : s ∈ L) => MatchPattern_any p s w' (by omega) (Nat.le_trans (HLs.out s h) (by omega)))
  have HVL := hid (wmL_le L p (by omega))
  have HOK := hid (@wm_ok L p)
  obtain ⟨n, hn⟩ : ∃ n, L.length = n := ⟨_, rfl⟩
  obtain ⟨V, hV⟩ : ∃ V, wmL L p = V := ⟨_, rfl⟩
  obtain ⟨K, hK⟩ : ∃ K, wmC L p = K := ⟨_, rfl⟩
  have HVV := hid hV
  have HN := hid hn
  rw [hV, hK, hn] at HW HWs
  rw [hn] at HW9 hL ⊢
  rw [hV] at HVL
  rw [hK] at HOK
  have hx1 : Ext w1 (w1.alloc (.cells #[.slice A n C] 28)) := (Ext.refl w1).alloc _
  obtain ⟨B, hB⟩ : ∃ B, w1.heap.size = B := ⟨_, rfl⟩
  have b0 : (w1.alloc (.cells #[.slice A n C] 28)).cell? ⟨B, 0, none⟩ = some (.slice A n C) := by subst hB; simp
  replace hE := hE.trans hx1
  replace RL := hid (RL.out.ext hx1)
  have HB := hid hB
  clear ho hLs hV hK hn hx hx1 hB
  go_wp2_with fail
  simp only [HB.out]
  clear HB
  go_wp2_with fail
  refine (HW.out _ RL.out).mono ?_
  rintro e z1 ⟨a2, c2, rfl, ho2, hx⟩
  replace b0 := hx.cell b0
  replace RL := hid (RL.out.ext hx)
  replace hE := hE.trans hx
  clear hx
  have R2 := hid ho2.rd
  clear ho2
  go_wp2_with fail
  refine (HWs.out _ RL.out).mono ?_
  rintro e z2 ⟨a3, c3, rfl, ho3, hx⟩
  replace b0 := hx.cell b0
  replace RL := hid (RL.out.ext hx)
  replace R2 := hid (R2.out.ext hx)
  replace hE := hE.trans hx
  clear hx
  have R3 := hid ho3.rd
  clear ho3
  go_wp2_with fail
  refine (HP.out _ hE).mono ?_
  rintro e z3 ⟨q, y, rfl, hq, hy, hx⟩
  replace b0 := hx.cell b0
  replace RL := hid (RL.out.ext hx)
  replace R2 := hid (R2.out.ext hx)
  replace R3 := hid (R3.out.ext hx)
  replace hE := hE.trans hx
  clear hx
  have HQ := hid (MatchPattern_any q y · (by omega) (by omega))
  have HQs := hid (sMatchPattern_any q y · (by omega) (by omega))
  have HI := hid (IsWord_any y · (by omega))
  have HQ2 := hid (MatchPattern_any y y · (by omega) (by omega))
  have HS2 := hid (@mp_self y)
  go_wp2_with fail
  refine (f6same_self a2 a3 c2 c3 V _ R2.out R3.out HVL.out).mono ?_
  rintro e z4 ⟨rfl, hx⟩
  replace b0 := hx.cell b0
  replace RL := hid (RL.out.ext hx)
  replace R2 := hid (R2.out.ext hx)
  replace R3 := hid (R3.out.ext hx)
  replace hE := hE.trans hx
  clear hx
  go_wp2_with fail
  refine (HV.out _).mono ?_
  rintro e z5 ⟨rfl, rfl⟩
  go_wp2_with fail
  refine (HVs.out _).mono ?_
  rintro e z6 ⟨rfl, rfl⟩
  go_wp2_with fail
  refine (HQ.out _).mono ?_
  rintro e z7 ⟨rfl, hx⟩
  replace b0 := hx.cell b0
  replace RL := hid (RL.out.ext hx)
  replace R2 := hid (R2.out.ext hx)
  replace R3 := hid (R3.out.ext hx)
  replace hE := hE.trans hx
  clear hx
  go_wp2_with fail
  refine (HQs.out _).mono ?_
  rintro e z8 ⟨rfl, hx⟩
  replace b0 := hx.cell b0
  replace RL := hid (RL.out.ext hx)
  replace R2 := hid (R2.out.ext hx)
  replace R3 := hid (R3.out.ext hx)
  replace hE := hE.trans hx
  clear hx
  go_wp2_with fail
  refine (HI.out _).mono ?_
  rintro e z9 ⟨rfl, hx⟩
  replace b0 := hx.cell b0
  replace RL := hid (RL.out.ext hx)
  replace R2 := hid (R2.out.ext hx)
  replace R3 := hid (R3.out.ext hx)
  replace hE := hE.trans hx
  clear hx
  have fin : Hid True := hid trivial
  clear fin
  cases hw : wordOk y
  case' true =>
    have HY := hid (HS2.out hw)
    have HQY := HQ2
    rw [HY.out] at HQY
    go_wp2_with fail
    refine (HQY.out _).mono ?_
    rintro e z10 ⟨rfl, hx⟩
    replace b0 := hx.cell b0
    replace RL := hid (RL.out.ext hx)
    replace R2 := hid (R2.out.ext hx)
    replace R3 := hid (R3.out.ext hx)
    replace hE := hE.trans hx
    clear hx
    clear HY HQY
    skip
  case' false =>
    skip
  all_goals
    clear hw HQ2 HS2 HQ HQs HI HP HD HF HR
    by_cases hK : K = 0
    rotate_left
    · have hK2 : (K == 0) = false := by simpa using hK
      go_wp2_with fail
      go_returns
      exact ⟨rfl, hE⟩
    subst hK
    obtain ⟨hok, hpt⟩ := HOK.out rfl
    have HEQ := hid (fun s (hs : s ∈ L) => mp_word hok hpt hs)
    have HST := hid (wm_star hok)
    rw [HST.out.1, HST.out.2] at HW9
    rw [HVV.out] at HEQ
    have HLN : Hid (∀ k, k < n → wAt L k ∈ L) := hid (fun k hk => wAt_mem L k (by have := HN.out; omega))
    clear hok hpt HOK
    go_wp2_with fail
    go_loopw [11] (fun i wr => ∃ k : Nat, k ≤ n ∧ i = .int .i64 k ∧ Hid (Ext w wr ∧ wr.cell? ⟨B, 0, none⟩ = some (.slice A n C) ∧ Rd wr A (strsV L) ∧ Rd wr a2 (strsV V))) (fun i _ => n - (intOf i).toNat)
    case atStart => exact ⟨0, by omega, rfl, hid ⟨hE, b0, RL.out, R2.out⟩⟩
    case round =>
      clear hE b0 RL R2 R3
      obtain ⟨k, hk, rfl, HK⟩ := hrel
      obtain ⟨hE, b0, rL, r2⟩ := HK.out
      have RL := hid rL
      have R2 := hid r2
      clear rL r2 HK
      by_cases hlt : k < n
      · obtain ⟨bb, o, rfl, hcs⟩ := RL.out.word (by have := HN.out; omega)
        have c0 := hcs k (by have := HN.out; omega)
        have HSL := hid (HLN.out k hlt)
        obtain ⟨s, hs⟩ : ∃ s, wAt L k = s := ⟨_, rfl⟩
        rw [hs] at c0 HSL
        obtain ⟨p1, hp1⟩ : ∃ p1, o + k = p1 := ⟨_, rfl⟩
        rw [hp1] at c0
        have HMM := hid (fun w' => HM.out s w' HSL.out)
        have HHS := hid (HEQ.out s HSL.out)
        obtain ⟨m, hm⟩ : ∃ m, mpOk p s = m := ⟨_, rfl⟩
        rw [hm] at HMM HHS
        clear hcs hs hm
        go_wp2_with fail
        refine wp_region_flow_at (C := Ext) 15 [fun v _ => v = .slice a2 V.length c2, fun v _ => v = .pointer (some ⟨B, 0, none⟩), fun v _ => v = .slice (some ⟨bb, o, none⟩) n C, fun v _ => v = .int .i64 k, fun v _ => v = .pointer (some ⟨bb, p1, none⟩), fun v _ => v = .string s, fun v _ => v = .bool m, fun v _ => v = .string p, fun v _ => v = .pointer (some ⟨B, 0, none⟩), fun v _ => v = .slice (some ⟨bb, o, none⟩) n C, fun v _ => v = .int .i64 k, fun v _ => v = .pointer (some ⟨bb, p1, none⟩), fun v _ => v = .string s, fun v _ => v = .bool m, fun v _ => v = .bool false]
          [[(5, none)], [(3, none)], [(81, some 1)], [(11, none)], [(82, some 2), (83, some 3)], [(84, some 4)], [(80, some 0), (85, some 5)], [(4, none)], [(3, none)], [(88, some 8)], [(11, none)], [(89, some 9), (90, some 10)], [(91, some 11)], [(87, some 7), (92, some 12)], [(86, some 6), (93, some 13)]] (by kernel_rfl) (by kernel_rfl) Ext.refl (fun _ _ _ => Ext.trans) ?_ ?_ ?_
        · intro F hF
          simp only [List.mem_cons, List.not_mem_nil, or_false] at hF
          rcases hF with rfl | rfl | rfl | rfl | rfl | rfl | rfl | rfl | rfl | rfl | rfl | rfl | rfl | rfl | rfl <;> exact fun _ _ _ h _ => h
        · refine ⟨?_, ?_, ?_, ?_, ?_, ?_, ?_, ?_, ?_, ?_, ?_, ?_, ?_, ?_, ?_, trivial⟩
          · rintro ρ w1 hw hcst hfn hk
            clear hw
            simp only [known, List.getD_cons_zero, List.getD_cons_succ, Nat.reduceAdd] at hk
            simp only [List.getD_cons_zero, List.getD_cons_succ, Nat.reduceAdd, flowAt]
            go_simp
            exact ⟨Ext.refl _, rfl⟩
          · rintro ρ w1 hw hcst hfn hk
            clear hw
            simp only [known, List.getD_cons_zero, List.getD_cons_succ, Nat.reduceAdd] at hk
            simp only [List.getD_cons_zero, List.getD_cons_succ, Nat.reduceAdd, flowAt]
            go_simp
            exact ⟨Ext.refl _, rfl⟩
          · rintro ρ w1 hw hcst hfn hk
            have c0 := hw.cell (b := B) (o := 0) (v := .slice (some ⟨bb, o, none⟩) n C) (by first | (simp [*]; done) | (simp [*, go_sem]; done) | go_cell)
            clear hw
            simp only [known, List.getD_cons_zero, List.getD_cons_succ, Nat.reduceAdd] at hk
            simp only [List.getD_cons_zero, List.getD_cons_succ, Nat.reduceAdd, flowAt]
            go_simp
            exact ⟨Ext.refl _, rfl⟩
          · rintro ρ w1 hw hcst hfn hk
            clear hw
            simp only [known, List.getD_cons_zero, List.getD_cons_succ, Nat.reduceAdd] at hk
            simp only [List.getD_cons_zero, List.getD_cons_succ, Nat.reduceAdd, flowAt]
            go_simp
            exact ⟨Ext.refl _, rfl⟩
          · rintro ρ w1 hw hcst hfn hk
            clear hw
            simp only [known, List.getD_cons_zero, List.getD_cons_succ, Nat.reduceAdd] at hk
            simp only [List.getD_cons_zero, List.getD_cons_succ, Nat.reduceAdd, flowAt]
            go_simp
            exact ⟨Ext.refl _, rfl⟩
          · rintro ρ w1 hw hcst hfn hk
            have c0 := hw.cell (b := bb) (o := p1) (v := .string s) (by first | (simp [*]; done) | (simp [*, go_sem]; done) | go_cell)
            clear hw
            simp only [known, List.getD_cons_zero, List.getD_cons_succ, Nat.reduceAdd] at hk
            simp only [List.getD_cons_zero, List.getD_cons_succ, Nat.reduceAdd, flowAt]
            go_simp
            exact ⟨Ext.refl _, rfl⟩
          · rintro ρ w1 hw hcst hfn hk
            simp only [known, List.getD_cons_zero, List.getD_cons_succ, Nat.reduceAdd] at hk
            simp only [List.getD_cons_zero, List.getD_cons_succ, Nat.reduceAdd, flowAt]
            go_simp
            exact flow_ret (by rw [← HHS.out]; exact f6has_any a2 c2 V s _ (R2.out.ext ((Ext.refl _).drew.trans hw)) HVL.out)
          · rintro ρ w1 hw hcst hfn hk
            clear hw
            simp only [known, List.getD_cons_zero, List.getD_cons_succ, Nat.reduceAdd] at hk
            simp only [List.getD_cons_zero, List.getD_cons_succ, Nat.reduceAdd, flowAt]
            go_simp
            exact ⟨Ext.refl _, rfl⟩
          · rintro ρ w1 hw hcst hfn hk
            clear hw
            simp only [known, List.getD_cons_zero, List.getD_cons_succ, Nat.reduceAdd] at hk
            simp only [List.getD_cons_zero, List.getD_cons_succ, Nat.reduceAdd, flowAt]
            go_simp
            exact ⟨Ext.refl _, rfl⟩
          · rintro ρ w1 hw hcst hfn hk
            have c0 := hw.cell (b := B) (o := 0) (v := .slice (some ⟨bb, o, none⟩) n C) (by first | (simp [*]; done) | (simp [*, go_sem]; done) | go_cell)
            clear hw
            simp only [known, List.getD_cons_zero, List.getD_cons_succ, Nat.reduceAdd] at hk
            simp only [List.getD_cons_zero, List.getD_cons_succ, Nat.reduceAdd, flowAt]
            go_simp
            exact ⟨Ext.refl _, rfl⟩
          · rintro ρ w1 hw hcst hfn hk
            clear hw
            simp only [known, List.getD_cons_zero, List.getD_cons_succ, Nat.reduceAdd] at hk
            simp only [List.getD_cons_zero, List.getD_cons_succ, Nat.reduceAdd, flowAt]
            go_simp
            exact ⟨Ext.refl _, rfl⟩
          · rintro ρ w1 hw hcst hfn hk
            clear hw
            simp only [known, List.getD_cons_zero, List.getD_cons_succ, Nat.reduceAdd] at hk
            simp only [List.getD_cons_zero, List.getD_cons_succ, Nat.reduceAdd, flowAt]
            go_simp
            exact ⟨Ext.refl _, rfl⟩
          · rintro ρ w1 hw hcst hfn hk
            have c0 := hw.cell (b := bb) (o := p1) (v := .string s) (by first | (simp [*]; done) | (simp [*, go_sem]; done) | go_cell)
            clear hw
            simp only [known, List.getD_cons_zero, List.getD_cons_succ, Nat.reduceAdd] at hk
            simp only [List.getD_cons_zero, List.getD_cons_succ, Nat.reduceAdd, flowAt]
            go_simp
            exact ⟨Ext.refl _, rfl⟩
          · rintro ρ w1 hw hcst hfn hk
            simp only [known, List.getD_cons_zero, List.getD_cons_succ, Nat.reduceAdd] at hk
            simp only [List.getD_cons_zero, List.getD_cons_succ, Nat.reduceAdd, flowAt]
            go_simp
            exact flow_ret (HMM.out _)
          · rintro ρ w1 hw hcst hfn hk
            clear hw
            simp only [known, List.getD_cons_zero, List.getD_cons_succ, Nat.reduceAdd] at hk
            simp only [List.getD_cons_zero, List.getD_cons_succ, Nat.reduceAdd, flowAt]
            go_simp
            exact ⟨Ext.refl _, rfl⟩
        intro vs w1 hw hf
        simp only [flowFacts, Nat.reduceAdd] at hf
        obtain ⟨e0, e1, e2, e3, e4, e5, e6, e7, e8, e9, e10, e11, e12, e13, e14, -⟩ := hf
        simp only [List.take_succ_cons, List.take_zero, List.drop_succ_cons, List.drop_zero, putAll, Act.put, Nat.reduceAdd, List.setIfInBounds_toArray, List.set_cons_zero, List.set_cons_succ, e0, e1, e2, e3, e4, e5, e6, e7, e8, e9, e10, e11, e12, e13, e14]
        clear e0 e1 e2 e3 e4 e5 e6 e7 e8 e9 e10 e11 e12 e13 e14
        replace hx := (Ext.refl _).drew.trans hw
        have hE2 := hE.trans hx
        have b2 := hx.cell b0
        have RL2 := hid (RL.out.ext hx)
        have R22 := hid (R2.out.ext hx)
        clear hx hw hE b0 RL R2 c0 HMM HHS
        go_wp2_with fail
        go_roundw
        case rel => exact ⟨k + 1, by omega, by go_num, hid ⟨hE2, b2, RL2.out, R22.out⟩⟩
        case measure => simp [intOf]; omega
      · have HNN := HN.out
        go_wp2_with fail
        refine (HW9.out _ RL.out).mono ?_
        rintro e z11 ⟨a9, c9, rfl, ho9, hx⟩
        replace b0 := hx.cell b0
        replace RL := hid (RL.out.ext hx)
        replace R2 := hid (R2.out.ext hx)
        replace hE := hE.trans hx
        clear hx
        have HSS := hid (fun w' (h1 : Rd w' a9 (strsV L)) (h2 : Rd w' A (strsV L)) => f6same_self a9 A c9 C L w' h1 h2 (by omega))
        have R9 := hid ho9.rd
        rw [HN.out] at HSS
        rw [HN.out]
        clear ho9 HNN
        go_wp2_with fail
        refine (HSS.out _ R9.out RL.out).mono ?_
        rintro e z12 ⟨rfl, hx⟩
        replace b0 := hx.cell b0
        replace RL := hid (RL.out.ext hx)
        replace R2 := hid (R2.out.ext hx)
        replace hE := hE.trans hx
        clear hx
        go_wp2_with fail
        go_returns
        exact ⟨rfl, hE⟩
set_option maxRecDepth 100000 in
theorem lifted_FnPatterns (os : Os) (started : os.Started) (H : Type) (enc : TypeId × Value → H) :
    ReturnsInHanded {} Try.checked os 5 .any (Rows.fnPatternsSpec.pre6 enc Try.prog Try.f5 Rows.fnPatternsRow.domain false) (Rows.fnPatternsSpec.post enc Try.prog Try.f5 false true false false) := by
  refine returnsInHanded_of_change (C := Try.checked) ownRow started (by kernel_rfl) Try.func5
    (ChangeSpec.witness6 (enc := enc) (C := Try.checked) false ⟨#[], #[.slice none 0 0], []⟩ 8 (by kernel_rfl) (by kernel_rfl) (by kernel_rfl) (by kernel_rfl)) ?_
  intro W base args ds gs before hval0 hW hcnd _
  have hval : ∀ (j : Nat) t v, Try.f5.params[j]? = some t → args[j]? = some v → Value.okWide Try.prog W .any base t v := hval0
  have hW' := hW
  obtain ⟨p, q, hA0, hV, rfl, hfz, hnd⟩ := hW
  have hA : DataW.TrodAll enc Try.prog W 0 (fun _ => true) true Try.f5.params.toList args.toList ds p := hA0
  rw [Try.params5] at hA hval
  obtain ⟨v0, vs0, d0, ds0, p0, q0, hargs, rfl, rfl, h0, r0⟩ := trodAll_cons hA
  obtain ⟨rfl, rfl, rfl⟩ := trodAll_nil r0
  obtain rfl : args = #[v0] := by cases args; simp_all
  obtain ⟨rfl, rfl⟩ := trodVars_none hV
  have k0 := h0
  have lt0 : ∀ x ∈ p0, x.block < W.heap.size := by obtain ⟨m, hm⟩ := k0; exact DataW.trod_lt m _ _ _ hm
  obtain ⟨a0_a, a0_c, a0_l, rfl, r_a0, n_a0⟩ := open_code Try.underlying32 Try.underlying5 (by kernel_rfl) (hval 0 32 v0 rfl rfl) h0
  clear hA0 hval0
  refine (walk_FnPatterns a0_a a0_c a0_l W r_a0 n_a0).mono fun e W' ⟨he, bel⟩ => ?_
  subst he
  exact ⟨_, rfl, _, _, _, [], _, [], hW', trodAll_mk1 (shut_bool Try.underlying4 _), (trodAll_cons_mk (Below.trod laidRow (by kernel_rfl) (of_decide_eq_true (by kernel_rfl)) k0 bel lt0) trodAll_mk0), rfl, bel.frame _, fun h => by cases h⟩

theorem over_FnPatterns : Rows.fnPatternsRow.holds Try.pinned (OpenSpec.ofChange Rows.fnPatternsSpec) :=
  OpenClaim.holds_of_wide 5 Try.f5 rfl rfl rfl rfl rfl rfl rfl ⟨rfl, rfl, rfl, rfl, rfl⟩ rfl rfl rfl rfl rfl (by kernel_rfl) Try.func5 (by kernel_rfl)
    (of_decide_eq_true (by kernel_rfl)) (by unfold Func.isWrapper; first | (rw [if_pos (by decide +kernel)]; kernel_rfl) | (rw [if_neg (by decide +kernel)]; exact ⟨rfl, rfl⟩))
    (fun os started H enc _ => lifted_FnPatterns os started H enc)

theorem said_FnPatterns : Rows.FnPatternsSaid := over_FnPatterns
end Go.Proofs.Ytfnobjejjjpkoaa
