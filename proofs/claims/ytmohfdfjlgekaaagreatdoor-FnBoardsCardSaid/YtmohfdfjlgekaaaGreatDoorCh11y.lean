/- ReadBoard, by both. Conditions: at most 2^20 bytes; the library's variables. -/
import Derived.Test.YtmohfdfjlgekaaaGreatDoorCh11x
namespace Go.Proofs.YtmohfdfjlgekaaaGreatDoor
set_option linter.unusedVariables false
set_option linter.unusedSimpArgs false
open Go Go.RowKit
/-- A block of a board that holds nothing yet. -/
def Zb (w : World) (R : Nat) : Prop := w.cell? ⟨R, 0, none⟩ = some (.int .i64 0) ∧ w.cell? ⟨R, 1, none⟩ = some (.string ⟨#[]⟩) ∧ w.cell? ⟨R, 2, none⟩ = some (.string ⟨#[]⟩) ∧ (∀ j, w.frozen? ⟨R, j, none⟩ = false) ∧ R < w.heap.size
theorem Zb.ext {w w' : World} {R : Nat} (h : Zb w R) (k : Ext w w') : Zb w' R :=
  ⟨k.cell h.1, k.cell h.2.1, k.cell h.2.2.1, fun j => by rw [Below.frozen k (p := ⟨R, j, none⟩) h.2.2.2.2]; exact h.2.2.2.1 j, Nat.lt_of_lt_of_le h.2.2.2.2 k.size⟩
theorem Zb.new (w : World) : Zb (w.alloc (.cells #[.int .i64 0, .string ⟨#[]⟩, .string ⟨#[]⟩] 25)) w.heap.size := ⟨by simp, by simp, by simp, by simp, by simp⟩
theorem lines_head (m : Nat) (p c : ByteArray) (h : 0 < (linesL m p c).length) : (linesL m p c)[0] = headS m := rfl
theorem ok_range {m : Nat} {p c : ByteArray} (h : okB m p c = true) : 5 ≤ m ∧ m ≤ 15 := by
  obtain ⟨h1, h2, -⟩ := okB_true h
  omega
theorem Join_at (q o c : Nat) (L : List ByteArray) (k n : Nat) (w : World) (hq : Rq w q L) (ho : o = k) (hn : (( L.drop k).take n).length = n) (hc : n ≤ c) (hz : tot L ≤ 1048576) (hl : L.length ≤ 1048577) : Calls Tryz.prog 47 #[.slice (some ⟨q, o, none⟩) n c, .string ⟨#[]⟩] w (Ret (.string (joinL ((L.drop k).take n))) w) := by
  subst ho
  have hlen : (Lib.join (((L.drop o).take n).map (·.data.toList)) (⟨#[]⟩ : ByteArray).data.toList).length ≤ 1048576 := by
    have h1 := congrArg ByteArray.size (join_empty ((L.drop o).take n))
    rw [joinL_tot] at h1
    have h2 := tot_take (L.drop o) n
    have h3 := tot_drop L o
    have h4 : (⟨(Lib.join (((L.drop o).take n).map (·.data.toList)) (⟨#[]⟩ : ByteArray).data.toList).toArray⟩ : ByteArray).size = (Lib.join (((L.drop o).take n).map (·.data.toList)) (⟨#[]⟩ : ByteArray).data.toList).length := List.size_toArray ..
    omega
  have hL : ((L.drop o).take n).length ≤ L.length := by
    rw [List.length_take, List.length_drop]
    omega
  by_cases hn0 : n = 0
  · subst hn0
    refine (Tryz.strings_Join_none _ c ⟨#[]⟩ w).mono ?_
    rintro e w' ⟨rfl, rfl⟩
    exact ⟨rfl, Ext.refl _⟩
  have hll : n ≤ 1048577 := by
    rw [List.length_take, List.length_drop] at hn
    omega
  have := Tryz.strings_Join q o c ((L.drop o).take n) ⟨#[]⟩ w (fun j x hj => by
    rw [List.getElem?_take] at hj
    split at hj
    · rw [List.getElem?_drop] at hj
      obtain ⟨h1, h2⟩ := List.getElem?_eq_some_iff.1 hj
      rw [← h2]
      exact hq.at (o + j) h1
    · cases hj) hq.2 (by omega) (by omega) (by omega)
  rw [hn] at this
  refine this.mono ?_
  rintro e w' ⟨rfl, hx⟩
  exact ⟨by rw [join_empty], hx⟩
set_option maxRecDepth 100000 in
set_option maxHeartbeats 4000000 in
theorem ReadBoard_any (s : ByteArray) (w : World) (hs : s.size ≤ 1048576) (hN : NumF w) : Calls Tryz.prog 21 #[.string s] w (Ret (readV s) w) := by
  have HL := hid (fun w' (h : MaxAt w') => linesOf_any s w' hs h)
  have HNF := hid (fun w' (k : Ext w w') => hN.ext k)
  have HHT := hid head_trim
  have HP := hid (fun m p c h => lines_prem m p c h [])
  have HC := hid (fun m p c h => lines_cell m p c h [])
  have HLL := hid lines_len
  clear hN
  go_enter Tryz.func21, Tryz.ntmps21
  go_wp2_with fail
  refine (HL.out _ (HNF.out _ ((Ext.refl w).alloc _)).1).mono ?_
  rintro e w1 ⟨a, cL, L, ok, rfl, hLc, hqq, hx, htot, hLl, hk⟩
  have HZ := hid ((Zb.new w).ext hx)
  have hE := ((Ext.refl w).alloc (.cells #[.int .i64 0, .string ⟨#[]⟩, .string ⟨#[]⟩] 25)).trans hx
  have HK := hid hk
  clear hx hk
  cases ok
  · obtain ⟨r0, r1, r2, rf, hR⟩ := HZ.out
    go_wp2_with fail
    have hV : readV s = .tuple #[boardV 0 noS noS, .bool false] := readV_no (fun m p c h1 h2 => by
      have := (HK.out m p c h1 h2).1
      cases this
      )
    refine bodyPost_ret (v := .tuple #[boardV 0 noS noS, .bool false]) (by simp [results, Tryz.results21, go_sem, r0, r1, r2, rf, noS, boardV]) rfl ⟨by rw [hV], ((hE.setCell (by simp) _).setCell (by simp) _).setCell (by simp) _⟩
  by_cases hL0 : L.length = 0
  · obtain ⟨r0, r1, r2, rf, hR⟩ := HZ.out
    have hL1 : ((L.length : Int) == 0) = true := by rw [hL0]; rfl
    go_wp2_with fail
    have hV : readV s = .tuple #[boardV 0 noS noS, .bool false] := readV_no (fun m p c h1 h2 => by
      have := (HK.out m p c h1 h2).2
      have h3 := HLL.out m p c
      rw [← this] at h3
      omega
      )
    refine bodyPost_ret (v := .tuple #[boardV 0 noS noS, .bool false]) (by simp [results, Tryz.results21, go_sem, r0, r1, r2, rf, noS, boardV]) rfl ⟨by rw [hV], ((hE.setCell (by simp) _).setCell (by simp) _).setCell (by simp) _⟩
  obtain ⟨q, rfl, hq⟩ := hqq (by omega)
  clear hqq
  have HQ := hid hq
  have c0 := hq.at 0 (by omega)
  obtain ⟨x0, hx0⟩ : ∃ x, L[0]'(by omega) = x := ⟨_, rfl⟩
  have hx0z : x0.size ≤ 1048576 := by
    have := tot_mem (List.getElem_mem (by omega : 0 < L.length))
    rw [hx0] at this
    omega
  rw [hx0] at c0
  obtain ⟨T, hT⟩ : ∃ T : ByteArray, (⟨(Lib.trimPrefix x0.data.toList [98, 111, 97, 114, 100, 32]).toArray⟩ : ByteArray) = T := ⟨_, rfl⟩
  have hTz : T.size ≤ 1048576 := by
    rw [← hT]
    show (Lib.trimPrefix x0.data.toList [98, 111, 97, 114, 100, 32]).toArray.size ≤ _
    rw [List.size_toArray]
    unfold Lib.trimPrefix
    split
    · rw [List.length_drop, list_len]; omega
    · rw [list_len]; omega
  have HTd : Hid (∀ (m : Nat) (p c : ByteArray), okB m p c = true → textB m p c = s → T = decS m) := hid (fun m p c h1 h2 => by
    have h3 := (HK.out m p c h1 h2).2
    rw [← hT, ← hx0]
    apply ba_list
    show Lib.trimPrefix _ _ = _
    rw [← HHT.out m]
    congr 2
    subst h3
    rfl)
  have HTP : Hid (∀ w, Calls Tryz.prog 50 #[.string x0, .string ⟨#[98, 111, 97, 114, 100, 32]⟩] w (Same (.string T) w)) := hid (fun w => (Tryz.strings_TrimPrefix x0 ⟨#[98, 111, 97, 114, 100, 32]⟩ w).mono (by rintro e w' ⟨rfl, rfl⟩; exact ⟨by rw [← hT], rfl⟩))
  have HRD := hid (fun w' h => ReadDecimal_ex T w' hTz h)
  have hL1 : ((L.length : Int) == 0) = false := by rw [beq_eq_false_iff_ne]; omega
  have hLp : 0 < L.length := by omega
  clear hT hx0 hq hL0
  go_wp2_with fail
  refine (HTP.out _).mono ?_
  rintro e w2 ⟨rfl, rfl⟩
  go_wp2_with fail
  refine (HRD.out _ (HNF.out _ hE)).mono ?_
  rintro e w2 ⟨z, ok2, rfl, hz, hx⟩
  replace hE := hE.trans hx
  replace HZ := hid (HZ.out.ext hx)
  replace HQ := hid (HQ.out.ext hx)
  have HNR := hid hz
  have hz0 := hz.1
  have hz1 := hz.2.1
  clear hx hz c0
  cases hin : inB z 5 15
  · obtain ⟨r0, r1, r2, rf, hR⟩ := HZ.out
    have HS := hid (fun w' => sizeOk_any z w')
    rw [hin] at HS
    have HIN := hid hin
    clear hin
    go_wp2_with fail
    refine (HS.out _).mono ?_
    rintro e w3 ⟨rfl, rfl⟩
    go_wp2_with fail
    have hV : readV s = .tuple #[boardV 0 noS noS, .bool false] := readV_no (fun m p c h1 h2 => by
      have h5 := ok_range h1
      obtain ⟨h3, -⟩ := HNR.out.2.2.2 m (by omega) (by omega) (HTd.out m p c h1 h2)
      have h4 := HIN.out
      rw [h3] at h4
      unfold inB at h4
      rw [decide_eq_false_iff_not] at h4
      omega
      )
    refine bodyPost_ret (v := .tuple #[boardV 0 noS noS, .bool false]) (by simp [results, Tryz.results21, go_sem, r0, r1, r2, rf, noS, boardV]) rfl ⟨by rw [hV], ((hE.setCell (by simp) _).setCell (by simp) _).setCell (by simp) _⟩
  have HS := hid (fun w' => sizeOk_any z w')
  rw [hin] at HS
  obtain ⟨hi1, hi2⟩ := inB_true hin
  clear hin
  obtain ⟨n, rfl⟩ := nat_of hi1
  have hn5 : 5 ≤ n := by omega
  have hn15 : n ≤ 15 := by omega
  clear hi1 hi2 hz0 hz1
  have HNM : Hid (∀ (m : Nat) (p c : ByteArray), okB m p c = true → textB m p c = s → n = m ∧ L = linesL m p c) := hid (fun m p c h1 h2 => by
    have h5 := ok_range h1
    obtain ⟨h3, -⟩ := HNR.out.2.2.2 m (by omega) (by omega) (HTd.out m p c h1 h2)
    exact ⟨by omega, (HK.out m p c h1 h2).2⟩)
  by_cases hlen : L.length = 2 * n + 1
  case neg =>
    obtain ⟨r0, r1, r2, rf, hR⟩ := HZ.out
    have hlen1 : ((L.length : Int) == 2 * (n : Int) + 1) = false := by rw [beq_eq_false_iff_ne]; omega
    go_wp2_with fail
    refine (HS.out _).mono ?_
    rintro e w3 ⟨rfl, rfl⟩
    go_wp2_with fail
    have hV : readV s = .tuple #[boardV 0 noS noS, .bool false] := readV_no (fun m p c h1 h2 => by
      obtain ⟨rfl, h3⟩ := HNM.out m p c h1 h2
      have h4 := HLL.out n p c
      rw [← h3] at h4
      exact hlen h4
      )
    refine bodyPost_ret (v := .tuple #[boardV 0 noS noS, .bool false]) (by simp [results, Tryz.results21, go_sem, r0, r1, r2, rf, noS, boardV]) rfl ⟨by rw [hV], ((hE.setCell (by simp) _).setCell (by simp) _).setCell (by simp) _⟩
  have hlen1 : ((L.length : Int) == 2 * (n : Int) + 1) = true := by rw [beq_iff_eq]; omega
  have HJ1 := hid (fun w' (h : Rq w' q L) => Join_at q 1 (cL - 1) L 1 n w' h rfl (by rw [List.length_take, List.length_drop]; omega) (by omega) (by omega) (by omega))
  have HJ2 := hid (fun w' (h : Rq w' q L) => Join_at q (n + 1) (cL - (n + 1)) L (n + 1) n w' h rfl (by rw [List.length_take, List.length_drop]; omega) (by omega) (by omega) (by omega))
  obtain ⟨P, hP⟩ : ∃ P, joinL ((L.drop 1).take n) = P := ⟨_, rfl⟩
  obtain ⟨C, hC⟩ : ∃ C, joinL ((L.drop (n + 1)).take n) = C := ⟨_, rfl⟩
  have hPz : P.size ≤ 1048576 := by
    rw [← hP, joinL_tot]
    exact Nat.le_trans (tot_take _ _) (Nat.le_trans (tot_drop _ _) (Nat.le_trans htot hs))
  have hCz : C.size ≤ 1048576 := by
    rw [← hC, joinL_tot]
    exact Nat.le_trans (tot_take _ _) (Nat.le_trans (tot_drop _ _) (Nat.le_trans htot hs))
  have HPC : Hid (∀ (m : Nat) (p c : ByteArray), okB m p c = true → textB m p c = s → n = m ∧ P = p ∧ C = c) := hid (fun m p c h1 h2 => by
    obtain ⟨rfl, h3⟩ := HNM.out m p c h1 h2
    refine ⟨rfl, ?_, ?_⟩
    · rw [← hP, h3]
      have := HP.out n p c h1
      rwa [List.append_nil] at this
    · rw [← hC, h3]
      have := HC.out n p c h1
      rwa [List.append_nil, Nat.add_comm 1] at this)
  rw [hP] at HJ1
  rw [hC] at HJ2
  clear hP hC
  have hR := HZ.out.2.2.2.2
  go_wp2_with fail
  refine (HS.out _).mono ?_
  rintro e w3 ⟨rfl, rfl⟩
  go_wp2_with fail
  refine wp_region_flow_at (C := Ext) 13 [fun v _ => v = .int .i64 (n : Int), fun v _ => v = .slice (some ⟨q, 0, none⟩) L.length cL, fun v _ => v = .int .i64 (n : Int), fun v _ => v = .int .i64 ((n : Int) + 1), fun v _ => v = .slice (some ⟨q, 1, none⟩) n (cL - 1), fun v _ => v = .string P, fun v _ => v = .slice (some ⟨q, 0, none⟩) L.length cL, fun v _ => v = .int .i64 (n : Int), fun v _ => v = .int .i64 ((n : Int) + 1), fun v _ => v = .slice (some ⟨q, n + 1, none⟩) n (cL - (n + 1)), fun v _ => v = .string C, fun v _ => v = .agg #[.int .i64 (n : Int), .string P, .string C], fun v w' => ∃ g, v = .pointer (some ⟨g, 0, none⟩) ∧ w2.heap.size ≤ g ∧ Zb w' g]
    [[(6, none)], [(4, none)], [(6, none)], [(44, some 2)], [(43, some 1), (45, some 3)], [(46, some 4)], [(4, none)], [(6, none)], [(49, some 7)], [(48, some 6), (50, some 8)], [(51, some 9)], [(42, some 0), (47, some 5), (52, some 10)], []] (by kernel_rfl) (by kernel_rfl) Ext.refl (fun _ _ _ => Ext.trans) ?_ ?_ ?_
  · intro F hF
    simp only [List.mem_cons, List.not_mem_nil, or_false] at hF
    rcases hF with rfl | rfl | rfl | rfl | rfl | rfl | rfl | rfl | rfl | rfl | rfl | rfl | rfl
    · exact fun _ _ _ h _ => h
    · exact fun _ _ _ h _ => h
    · exact fun _ _ _ h _ => h
    · exact fun _ _ _ h _ => h
    · exact fun _ _ _ h _ => h
    · exact fun _ _ _ h _ => h
    · exact fun _ _ _ h _ => h
    · exact fun _ _ _ h _ => h
    · exact fun _ _ _ h _ => h
    · exact fun _ _ _ h _ => h
    · exact fun _ _ _ h _ => h
    · exact fun _ _ _ h _ => h
    · exact fun _ _ _ ⟨g, h1, h2, h3⟩ k => ⟨g, h1, h2, h3.ext k⟩
  · refine ⟨?_, ?_, ?_, ?_, ?_, ?_, ?_, ?_, ?_, ?_, ?_, ?_, ?_, trivial⟩
    · rintro ρ w1 hw hcst hfn hk
      clear hw
      simp only [known, List.getD_cons_zero, List.getD_cons_succ, Nat.reduceAdd] at hk
      simp only [List.getD_cons_zero, List.getD_cons_succ, Nat.reduceAdd, flowAt]
      go_simp
      exact ⟨Ext.refl _, by first | rfl | trivial⟩
    · rintro ρ w1 hw hcst hfn hk
      clear hw
      simp only [known, List.getD_cons_zero, List.getD_cons_succ, Nat.reduceAdd] at hk
      simp only [List.getD_cons_zero, List.getD_cons_succ, Nat.reduceAdd, flowAt]
      go_simp
      exact ⟨Ext.refl _, by first | rfl | trivial⟩
    · rintro ρ w1 hw hcst hfn hk
      clear hw
      simp only [known, List.getD_cons_zero, List.getD_cons_succ, Nat.reduceAdd] at hk
      simp only [List.getD_cons_zero, List.getD_cons_succ, Nat.reduceAdd, flowAt]
      go_simp
      exact ⟨Ext.refl _, by first | rfl | trivial⟩
    · rintro ρ w1 hw hcst hfn hk
      simp only [known, List.getD_cons_zero, List.getD_cons_succ, Nat.reduceAdd] at hk
      simp only [List.getD_cons_zero, List.getD_cons_succ, Nat.reduceAdd, flowAt]
      go_simp
      exact ⟨Ext.refl _, by first | rfl | (show Value.int _ _ = _; rw [IntWalk.i64_in _ (by omega)])⟩
    · rintro ρ w1 hw hcst hfn hk
      simp only [known, List.getD_cons_zero, List.getD_cons_succ, Nat.reduceAdd] at hk
      simp only [List.getD_cons_zero, List.getD_cons_succ, Nat.reduceAdd, flowAt]
      go_simp
      (rw [if_pos ⟨by omega, by omega⟩, if_pos (by omega), if_neg (by omega)]; exact ⟨Ext.refl _, rfl⟩)
    · rintro ρ w1 hw hcst hfn hk
      simp only [known, List.getD_cons_zero, List.getD_cons_succ, Nat.reduceAdd] at hk
      simp only [List.getD_cons_zero, List.getD_cons_succ, Nat.reduceAdd, flowAt]
      go_simp
      exact flow_ret (HJ1.out _ (HQ.out.ext ((Ext.refl _).drew.trans hw)))
    · rintro ρ w1 hw hcst hfn hk
      clear hw
      simp only [known, List.getD_cons_zero, List.getD_cons_succ, Nat.reduceAdd] at hk
      simp only [List.getD_cons_zero, List.getD_cons_succ, Nat.reduceAdd, flowAt]
      go_simp
      exact ⟨Ext.refl _, by first | rfl | trivial⟩
    · rintro ρ w1 hw hcst hfn hk
      clear hw
      simp only [known, List.getD_cons_zero, List.getD_cons_succ, Nat.reduceAdd] at hk
      simp only [List.getD_cons_zero, List.getD_cons_succ, Nat.reduceAdd, flowAt]
      go_simp
      exact ⟨Ext.refl _, by first | rfl | trivial⟩
    · rintro ρ w1 hw hcst hfn hk
      simp only [known, List.getD_cons_zero, List.getD_cons_succ, Nat.reduceAdd] at hk
      simp only [List.getD_cons_zero, List.getD_cons_succ, Nat.reduceAdd, flowAt]
      go_simp
      exact ⟨Ext.refl _, by first | rfl | (show Value.int _ _ = _; rw [IntWalk.i64_in _ (by omega)])⟩
    · rintro ρ w1 hw hcst hfn hk
      simp only [known, List.getD_cons_zero, List.getD_cons_succ, Nat.reduceAdd] at hk
      simp only [List.getD_cons_zero, List.getD_cons_succ, Nat.reduceAdd, flowAt]
      go_simp
      (rw [if_pos ⟨by omega, by omega⟩, if_neg (by omega), show 2 * n - n = n by omega]; exact ⟨Ext.refl _, rfl⟩)
    · rintro ρ w1 hw hcst hfn hk
      simp only [known, List.getD_cons_zero, List.getD_cons_succ, Nat.reduceAdd] at hk
      simp only [List.getD_cons_zero, List.getD_cons_succ, Nat.reduceAdd, flowAt]
      go_simp
      exact flow_ret (HJ2.out _ (HQ.out.ext ((Ext.refl _).drew.trans hw)))
    · rintro ρ w1 hw hcst hfn hk
      clear hw
      simp only [known, List.getD_cons_zero, List.getD_cons_succ, Nat.reduceAdd] at hk
      simp only [List.getD_cons_zero, List.getD_cons_succ, Nat.reduceAdd, flowAt]
      go_simp
      exact ⟨Ext.refl _, by first | rfl | trivial⟩
    · rintro ρ w1 hw hcst hfn hk
      simp only [known, List.getD_cons_zero, List.getD_cons_succ, Nat.reduceAdd] at hk
      simp only [List.getD_cons_zero, List.getD_cons_succ, Nat.reduceAdd, flowAt]
      go_simp
      exact ⟨(Ext.refl _).alloc _, w1.heap.size, rfl, ((Ext.refl _).drew.trans hw).size, Zb.new _⟩
  intro vs w1 hw hf
  simp only [flowFacts, Nat.reduceAdd] at hf
  obtain ⟨e0, e1, e2, e3, e4, e5, e6, e7, e8, e9, e10, e11, e12, -⟩ := hf
  simp only [List.take_succ_cons, List.take_zero, List.drop_succ_cons, List.drop_zero, putAll, Act.put, Nat.reduceAdd, List.setIfInBounds_toArray, List.set_cons_zero, List.set_cons_succ, e0, e1, e2, e3, e4, e5, e6, e7, e8, e9, e10, e11]
  clear e0 e1 e2 e3 e4 e5 e6 e7 e8 e9 e10 e11
  obtain ⟨g, e12v, hg1, HG⟩ := e12
  rw [e12v]
  obtain ⟨g0, g1, g2, gf, hgs⟩ := HG
  have hx4 := (Ext.refl _).drew.trans hw
  replace hE := hE.trans hx4
  replace HZ := hid (HZ.out.ext hx4)
  have hgR : w.heap.size ≠ g := by omega
  have hEW := ((hE.setCell (p := ⟨g, 0, none⟩) (show w.heap.size ≤ g by omega) (.int .i64 (n : Int))).setCell (p := ⟨g, 1, none⟩) (show w.heap.size ≤ g by omega) (.string P)).setCell (p := ⟨g, 2, none⟩) (show w.heap.size ≤ g by omega) (.string C)
  have HZW : Hid (Zb (((w1.setCell ⟨g, 0, none⟩ (.int .i64 (n : Int))).setCell ⟨g, 1, none⟩ (.string P)).setCell ⟨g, 2, none⟩ (.string C)) w.heap.size) := hid (by
    obtain ⟨r0, r1, r2, rf, hR⟩ := HZ.out
    refine ⟨?_, ?_, ?_, fun j => ?_, ?_⟩
    · rw [World.cell?_setCell_other _ _ _ _ (by first | (simp; done) | (simp; omega)), World.cell?_setCell_other _ _ _ _ (by first | (simp; done) | (simp; omega)), World.cell?_setCell_other _ _ _ _ (by first | (simp; done) | (simp; omega))]; exact r0
    · rw [World.cell?_setCell_other _ _ _ _ (by first | (simp; done) | (simp; omega)), World.cell?_setCell_other _ _ _ _ (by first | (simp; done) | (simp; omega)), World.cell?_setCell_other _ _ _ _ (by first | (simp; done) | (simp; omega))]; exact r1
    · rw [World.cell?_setCell_other _ _ _ _ (by first | (simp; done) | (simp; omega)), World.cell?_setCell_other _ _ _ _ (by first | (simp; done) | (simp; omega)), World.cell?_setCell_other _ _ _ _ (by first | (simp; done) | (simp; omega))]; exact r2
    · simpa using rf j
    · simpa using hR)
  have HBW : Hid (BdAt (((w1.setCell ⟨g, 0, none⟩ (.int .i64 (n : Int))).setCell ⟨g, 1, none⟩ (.string P)).setCell ⟨g, 2, none⟩ (.string C)) g 0 n P C) := hid (by
    refine ⟨?_, ?_, ?_⟩
    · rw [World.cell?_setCell_other _ _ _ _ (by simp), World.cell?_setCell_other _ _ _ _ (by simp)]
      exact World.cell?_setCell_same _ _ _ g0
    · rw [World.cell?_setCell_other _ _ _ _ (by simp)]
      refine World.cell?_setCell_same _ _ _ (u := .string ⟨#[]⟩) ?_
      rw [World.cell?_setCell_other _ _ _ _ (by simp)]
      exact g1
    · refine World.cell?_setCell_same _ _ _ (u := .string ⟨#[]⟩) ?_
      rw [World.cell?_setCell_other _ _ _ _ (by simp), World.cell?_setCell_other _ _ _ _ (by simp)]
      exact g2)
  have HV := hid (fun w' => ValidBoard_any n P C w' hPz hCz)
  have HBT := hid (fun w' => BoardText_any n P C w' hPz hCz)
  unfold boardV at HV HBT
  clear hw e12v HJ1 HJ2 HTP HRD HQ
  obtain ⟨W, hWW⟩ : ∃ W, (((w1.setCell ⟨g, 0, none⟩ (.int .i64 (n : Int))).setCell ⟨g, 1, none⟩ (.string P)).setCell ⟨g, 2, none⟩ (.string C)) = W := ⟨_, rfl⟩
  rw [hWW] at hEW HZW HBW
  obtain ⟨d0, d1, d2⟩ := HBW.out
  cases hok : okB n P C
  · rw [hok] at HV
    have HOK := hid hok
    clear hok
    go_wp2_with (rw [hWW]; clear hWW)
    refine (HV.out _).mono ?_
    rintro e w3 ⟨rfl, hx⟩
    replace hEW := hEW.trans hx
    replace HZW := hid (HZW.out.ext hx)
    obtain ⟨r0, r1, r2, rf, hR⟩ := HZW.out
    clear hx d0 d1 d2
    go_wp2_with fail
    have hV : readV s = .tuple #[boardV 0 noS noS, .bool false] := readV_no (fun m p c h1 h2 => by
      obtain ⟨rfl, rfl, rfl⟩ := HPC.out m p c h1 h2
      rw [HOK.out] at h1
      cases h1
      )
    refine bodyPost_ret (v := .tuple #[boardV 0 noS noS, .bool false]) (by simp [results, Tryz.results21, go_sem, r0, r1, r2, rf, noS, boardV]) rfl ⟨by rw [hV], ((hEW.setCell (by simp) _).setCell (by simp) _).setCell (by simp) _⟩
  have HTV : Hid (textV n P C = textB n P C) := hid (by unfold textV; rw [hok]; rfl)
  rw [hok] at HV
  rw [HTV.out] at HBT
  have HOK := hid hok
  clear hok
  obtain ⟨X, hX⟩ : ∃ X, textB n P C = X := ⟨_, rfl⟩
  have HX := hid hX
  rw [hX] at HBT
  clear hX
  go_wp2_with (rw [hWW]; clear hWW)
  refine (HV.out _).mono ?_
  rintro e w3 ⟨rfl, hx⟩
  replace hEW := hEW.trans hx
  replace HZW := hid (HZW.out.ext hx)
  replace HBW := hid (HBW.out.ext hx)
  clear hx d0 d1 d2
  obtain ⟨d0, d1, d2⟩ := HBW.out
  go_wp2_with fail
  refine (HBT.out _).mono ?_
  rintro e w4 ⟨rfl, hx⟩
  replace hEW := hEW.trans hx
  replace HZW := hid (HZW.out.ext hx)
  replace HBW := hid (HBW.out.ext hx)
  clear hx d0 d1 d2
  obtain ⟨d0, d1, d2⟩ := HBW.out
  obtain ⟨r0, r1, r2, rf, hR⟩ := HZW.out
  by_cases hq : X = s
  · have hq1 : (X.toList == s.toList) = true := by rw [bytes_beqN, decide_eq_true hq]
    have hV : readV s = .tuple #[boardV n P C, .bool true] := readV_yes HOK.out (by rw [HX.out]; exact hq)
    go_wp2_with fail
    refine bodyPost_ret (v := .tuple #[boardV n P C, .bool true]) (by simp [results, Tryz.results21, go_sem, r0, r1, r2, rf, boardV]) rfl ⟨by rw [hV], ((hEW.setCell (by simp) _).setCell (by simp) _).setCell (by simp) _⟩
  · have hq1 : (X.toList == s.toList) = false := by rw [bytes_beqN, decide_eq_false hq]
    go_wp2_with fail
    have hV : readV s = .tuple #[boardV 0 noS noS, .bool false] := readV_no (fun m p c h1 h2 => by
      obtain ⟨rfl, rfl, rfl⟩ := HPC.out m p c h1 h2
      exact hq (by rw [← HX.out]; exact h2)
      )
    refine bodyPost_ret (v := .tuple #[boardV 0 noS noS, .bool false]) (by simp [results, Tryz.results21, go_sem, r0, r1, r2, rf, noS, boardV]) rfl ⟨by rw [hV], ((hEW.setCell (by simp) _).setCell (by simp) _).setCell (by simp) _⟩
end Go.Proofs.YtmohfdfjlgekaaaGreatDoor
