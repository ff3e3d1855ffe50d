/- ReadBoard, by the reference. Conditions: at most 2^20 bytes. -/
import Derived.Test.YtmohfdfjlgekaaaGreatDoorCh11y
namespace Go.Proofs.YtmohfdfjlgekaaaGreatDoor
set_option linter.unusedVariables false
set_option linter.unusedSimpArgs false
open Go Go.RowKit
def lastW (l : List ByteArray) : ByteArray := l.getD (l.length - 1) ⟨#[]⟩
theorem joinL_succ (l : List ByteArray) (k : Nat) (h : k < l.length) : joinL (l.take (k + 1)) = joinL (l.take k) ++ l[k] := by
  rw [List.take_succ_eq_append_getElem h, joinL_snoc]
theorem take_drop_len (l : List ByteArray) (a k : Nat) : tot ((l.drop a).take k) ≤ tot l := Nat.le_trans (tot_take _ _) (tot_drop _ _)
/-- A board in a block that may be written. -/
def Slot (w : World) (g : Nat) (n : Int) (p c : ByteArray) : Prop := BdAt w g 0 n p c ∧ (∀ j, w.frozen? ⟨g, j, none⟩ = false) ∧ g < w.heap.size
theorem Slot.ext {w w' : World} {g : Nat} {n : Int} {p c : ByteArray} (h : Slot w g n p c) (k : Ext w w') : Slot w' g n p c :=
  ⟨h.1.ext k, fun j => by rw [Below.frozen k (p := ⟨g, j, none⟩) h.2.2]; exact h.2.1 j, Nat.lt_of_lt_of_le h.2.2 k.size⟩
theorem Zb.slot {w : World} {g : Nat} (h : Zb w g) : Slot w g 0 ⟨#[]⟩ ⟨#[]⟩ := ⟨⟨h.1, h.2.1, h.2.2.1⟩, h.2.2.2.1, h.2.2.2.2⟩
theorem Slot.new (w : World) (n : Int) : Slot (w.alloc (.cells #[.int .i64 n, .string ⟨#[]⟩, .string ⟨#[]⟩] 25)) w.heap.size n ⟨#[]⟩ ⟨#[]⟩ := ⟨⟨by simp, by simp, by simp⟩, by simp, by simp⟩
theorem Slot.set0 {w : World} {g : Nat} {n : Int} {p c : ByteArray} (h : Slot w g n p c) (n' : Int) : Slot (w.setCell ⟨g, 0, none⟩ (.int .i64 n')) g n' p c :=
  ⟨⟨World.cell?_setCell_same _ _ _ h.1.1, by rw [World.cell?_setCell_other _ _ _ _ (by simp)]; exact h.1.2.1, by rw [World.cell?_setCell_other _ _ _ _ (by simp)]; exact h.1.2.2⟩, fun j => by simpa using h.2.1 j, by simpa using h.2.2⟩
theorem Slot.set1 {w : World} {g : Nat} {n : Int} {p c : ByteArray} (h : Slot w g n p c) (p' : ByteArray) : Slot (w.setCell ⟨g, 1, none⟩ (.string p')) g n p' c :=
  ⟨⟨by rw [World.cell?_setCell_other _ _ _ _ (by simp)]; exact h.1.1, World.cell?_setCell_same _ _ _ h.1.2.1, by rw [World.cell?_setCell_other _ _ _ _ (by simp)]; exact h.1.2.2⟩, fun j => by simpa using h.2.1 j, by simpa using h.2.2⟩
theorem Slot.set2 {w : World} {g : Nat} {n : Int} {p c : ByteArray} (h : Slot w g n p c) (c' : ByteArray) : Slot (w.setCell ⟨g, 2, none⟩ (.string c')) g n p c' :=
  ⟨⟨by rw [World.cell?_setCell_other _ _ _ _ (by simp)]; exact h.1.1, by rw [World.cell?_setCell_other _ _ _ _ (by simp)]; exact h.1.2.1, World.cell?_setCell_same _ _ _ h.1.2.2⟩, fun j => by simpa using h.2.1 j, by simpa using h.2.2⟩
theorem cell_off {w : World} {b g o i : Nat} {u v : Value} (hne : b ≠ g) (h : w.cell? ⟨b, o, none⟩ = some v) : (w.setCell ⟨g, i, none⟩ u).cell? ⟨b, o, none⟩ = some v := by
  rw [World.cell?_setCell_other _ _ _ _ (by simp [hne])]
  exact h
theorem Zb.off {w : World} {R g i : Nat} {u : Value} (h : Zb w R) (hne : R ≠ g) : Zb (w.setCell ⟨g, i, none⟩ u) R :=
  ⟨cell_off hne h.1, cell_off hne h.2.1, cell_off hne h.2.2.1, fun j => by simpa using h.2.2.2.1 j, by simpa using h.2.2.2.2⟩
theorem Rq.off {w : World} {q g i : Nat} {u : Value} {Q : List ByteArray} (h : Rq w q Q) (hne : q ≠ g) : Rq (w.setCell ⟨g, i, none⟩ u) q Q := by
  refine ⟨fun j v hj => ?_, by simpa using h.2⟩
  obtain ⟨b, o, e, hc⟩ := h.1 j v hj
  simp only [Option.some.injEq, Addr.mk.injEq, and_true] at e
  obtain ⟨rfl, rfl⟩ := e
  exact ⟨q, 0, rfl, cell_off hne hc⟩
set_option maxRecDepth 100000 in
set_option maxHeartbeats 4000000 in
theorem sReadBoard_any (s : ByteArray) (w : World) (hs : s.size ≤ 1048576) : Calls Tryz.prog 23 #[.string s] w (Ret (readV s) w) := by
  have HL := hid (fun w' => l01Split_c 10 s w' hs)
  have HP := hid (fun m p c h => lines_prem m p c h [⟨#[]⟩])
  have HC := hid (fun m p c h => lines_cell m p c h [⟨#[]⟩])
  have HLL := hid lines_len
  have HK := hid (fun m p c h e => @lines_of m p c s h e)
  have HHS := hid head_split
  have htot := tot_split 10 s
  have hLl := splitC_length_le 10 s
  have hLp : 0 < (splitC 10 s).length := by rw [splitC_length]; omega
  obtain ⟨L, hL⟩ : ∃ L, splitC 10 s = L := ⟨_, rfl⟩
  rw [hL] at HL HK htot hLl hLp
  clear hL
  go_enter Tryz.func23, Tryz.ntmps23
  go_wp2_with fail
  refine (HL.out _).mono ?_
  rintro e w1 ⟨a, cL, rfl, ho, hx⟩
  have hcL := ho.le
  obtain ⟨q, rfl, hq1, hq⟩ := Rq.of (w' := w1) ho hLp
  have HQ := hid hq
  have HZ := hid ((Zb.new w).ext hx)
  have hE := ((Ext.refl w).alloc (.cells #[.int .i64 0, .string ⟨#[]⟩, .string ⟨#[]⟩] 25)).trans hx
  have c0 := hq.at 0 hLp
  obtain ⟨x0, hx0⟩ : ∃ x, L[0] = x := ⟨_, rfl⟩
  have hx0z : x0.size ≤ 1048576 := by
    have := tot_mem (List.getElem_mem hLp)
    rw [hx0] at this
    omega
  rw [hx0] at c0
  have HS2 := hid (fun w' => l01Split_c 32 x0 w' hx0z)
  have hVp : 0 < (splitC 32 x0).length := by rw [splitC_length]; omega
  have hVl := splitC_length_le 32 x0
  have hVt := tot_split 32 x0
  have HLW : Hid (∀ (m : Nat) (p c : ByteArray), okB m p c = true → textB m p c = s → lastW (splitC 32 x0) = decS m) := hid (fun m p c h1 h2 => by
    have h3 := HK.out m p c h1 h2
    have h4 := ok_range h1
    have h5 : x0 = headS m := by
      rw [← hx0]
      subst h3
      rfl
    rw [h5, HHS.out m (by omega)]
    rfl)
  obtain ⟨V, hV⟩ : ∃ V, splitC 32 x0 = V := ⟨_, rfl⟩
  rw [hV] at HS2 HLW hVp hVl hVt
  clear hV hx0 hx ho hq
  go_wp2_with fail
  refine (HS2.out _).mono ?_
  rintro e w2 ⟨a, cV, rfl, ho, hx⟩
  have hcV := ho.le
  obtain ⟨q2, rfl, hq2, hq⟩ := Rq.of (w' := w2) ho hVp
  replace hE := hE.trans hx
  replace HZ := hid (HZ.out.ext hx)
  replace HQ := hid (HQ.out.ext hx)
  obtain ⟨k2, hk2⟩ : ∃ k, V.length = k + 1 := ⟨V.length - 1, by omega⟩
  have c1 := hq.at k2 (by omega)
  obtain ⟨T, hT⟩ : ∃ x, V[k2]'(by omega) = x := ⟨_, rfl⟩
  have HTd : Hid (∀ (m : Nat) (p c : ByteArray), okB m p c = true → textB m p c = s → T = decS m) := hid (fun m p c h1 h2 => by
    rw [← HLW.out m p c h1 h2, ← hT]
    unfold lastW
    have e : V.length - 1 = k2 := by omega
    rw [e, List.getD_eq_getElem?_getD, List.getElem?_eq_getElem (by omega)]
    rfl)
  have hTz : T.size ≤ 1048576 := by
    have := tot_mem (List.getElem_mem (by omega : k2 < V.length))
    rw [hT] at this
    omega
  rw [hT] at c1
  have hk2i : IntKind.i64.wrap ((k2 : Int) + 1 - 1) = (k2 : Int) := by rw [IntWalk.i64_in _ (by omega)]; omega
  have HRD := hid (fun w' => l01Number_ex T w' hTz)
  rw [hk2]
  clear hx ho hq hT c0
  go_wp2_with fail
  refine (HRD.out _).mono ?_
  rintro e w3 ⟨z, ok, rfl, hz, hx⟩
  replace hE := hE.trans hx
  replace HZ := hid (HZ.out.ext hx)
  replace HQ := hid (HQ.out.ext hx)
  have HNR := hid hz
  have hz0 := hz.1
  have hz1 := hz.2.1
  clear hx hz c1 hq2 hk2i
  cases ok
  · obtain ⟨r0, r1, r2, rf, hR⟩ := HZ.out
    go_wp2_with fail
    have hV : readV s = .tuple #[boardV 0 noS noS, .bool false] := readV_no (fun m p c h1 h2 => by
      have h5 := ok_range h1
      have := (HNR.out.2.2.2 m (by omega) (by omega) (HTd.out m p c h1 h2)).2
      cases this
      )
    refine bodyPost_ret (v := .tuple #[boardV 0 noS noS, .bool false]) (by simp [results, Tryz.results23, go_sem, r0, r1, r2, rf, noS, boardV]) rfl ⟨by rw [hV], ((hE.setCell (by simp) _).setCell (by simp) _).setCell (by simp) _⟩
  cases hin : inB z 5 15
  · obtain ⟨r0, r1, r2, rf, hR⟩ := HZ.out
    have HS := hid (fun w' => l11Size_any z w')
    rw [hin] at HS
    have HIN := hid hin
    clear hin
    go_wp2_with fail
    refine (HS.out _).mono ?_
    rintro e w4 ⟨rfl, rfl⟩
    go_wp2_with fail
    have hV : readV s = .tuple #[boardV 0 noS noS, .bool false] := readV_no (fun m p c h1 h2 => by
      have h5 := ok_range h1
      obtain ⟨h3, -⟩ := HNR.out.2.2.2 m (by omega) (by omega) (HTd.out m p c h1 h2)
      have h4 := HIN.out
      rw [h3] at h4
      unfold inB at h4
      rw [decide_eq_false_iff_not] at h4
      omega
      )
    refine bodyPost_ret (v := .tuple #[boardV 0 noS noS, .bool false]) (by simp [results, Tryz.results23, go_sem, r0, r1, r2, rf, noS, boardV]) rfl ⟨by rw [hV], ((hE.setCell (by simp) _).setCell (by simp) _).setCell (by simp) _⟩
  have HS := hid (fun w' => l11Size_any z w')
  rw [hin] at HS
  obtain ⟨hi1, hi2⟩ := inB_true hin
  clear hin
  obtain ⟨n, rfl⟩ := nat_of hi1
  have hn5 : 5 ≤ n := by omega
  have hn15 : n ≤ 15 := by omega
  clear hi1 hi2 hz0 hz1
  have HNM : Hid (∀ (m : Nat) (p c : ByteArray), okB m p c = true → textB m p c = s → n = m ∧ L = linesL m p c ++ [⟨#[]⟩]) := hid (fun m p c h1 h2 => by
    have h5 := ok_range h1
    obtain ⟨h3, -⟩ := HNR.out.2.2.2 m (by omega) (by omega) (HTd.out m p c h1 h2)
    exact ⟨by omega, HK.out m p c h1 h2⟩)
  by_cases hlen : L.length = 2 * n + 2
  case neg =>
    obtain ⟨r0, r1, r2, rf, hR⟩ := HZ.out
    have hlen1 : ((L.length : Int) == 2 * (n : Int) + 2) = false := by rw [beq_eq_false_iff_ne]; omega
    go_wp2_with fail
    refine (HS.out _).mono ?_
    rintro e w4 ⟨rfl, rfl⟩
    go_wp2_with fail
    have hV : readV s = .tuple #[boardV 0 noS noS, .bool false] := readV_no (fun m p c h1 h2 => by
      obtain ⟨rfl, h3⟩ := HNM.out m p c h1 h2
      have h4 := HLL.out n p c
      rw [h3, List.length_append, h4] at hlen
      exact hlen rfl
      )
    refine bodyPost_ret (v := .tuple #[boardV 0 noS noS, .bool false]) (by simp [results, Tryz.results23, go_sem, r0, r1, r2, rf, noS, boardV]) rfl ⟨by rw [hV], ((hE.setCell (by simp) _).setCell (by simp) _).setCell (by simp) _⟩
  have hlen1 : ((L.length : Int) == 2 * (n : Int) + 2) = true := by rw [beq_iff_eq]; omega
  have HPC : Hid (∀ (m : Nat) (p c : ByteArray), okB m p c = true → textB m p c = s → n = m ∧ joinL ((L.drop 1).take n) = p ∧ joinL ((L.drop (1 + n)).take n) = c) := hid (fun m p c h1 h2 => by
    obtain ⟨rfl, h3⟩ := HNM.out m p c h1 h2
    rw [h3]
    exact ⟨rfl, HP.out n p c h1, HC.out n p c h1⟩)
  have HT1 := hid (fun k => Nat.le_trans (take_drop_len L 1 k) (Nat.le_trans htot hs))
  have HT2 := hid (fun k => Nat.le_trans (take_drop_len L (1 + n) k) (Nat.le_trans htot hs))
  have HM := hid (fun (x : ByteArray) (h : x ∈ L) => Nat.le_trans (tot_mem h) (Nat.le_trans htot hs))
  have hR := HZ.out.2.2.2.2
  have hqs := HQ.out.2
  have hgR : w.heap.size ≠ w3.heap.size := by omega
  have hgq : q ≠ w3.heap.size := by omega
  have HA := (Ext.refl w3).alloc (.cells #[.int .i64 (n : Int), .string ⟨#[]⟩, .string ⟨#[]⟩] 25)
  have HSL := hid (Slot.new w3 n)
  have HZ0 := hid (HZ.out.ext HA)
  have HQ0 := hid (HQ.out.ext HA)
  have HE0 := hid (hE.trans HA)
  clear HA HZ HQ hE
  go_wp2_with fail
  refine (HS.out _).mono ?_
  rintro e w4 ⟨rfl, rfl⟩
  go_wp2_with fail
  obtain ⟨g, hg⟩ : ∃ g, w3.heap.size = g := ⟨_, rfl⟩
  rw [hg] at HSL hgR hgq ⊢
  have hg1 : w.heap.size ≤ g := by omega
  go_loopw [9] (fun iv wr => ∃ k : Nat, k ≤ n ∧ iv = .int .i64 k ∧ Hid (Slot wr g n (joinL ((L.drop 1).take k)) (joinL ((L.drop (1 + n)).take k))) ∧ Hid (Ext w wr) ∧ Hid (Zb wr w.heap.size) ∧ Hid (Rq wr q L)) (fun iv _ => n - (intOf iv).toNat)
  case atStart => exact ⟨0, by omega, rfl, HSL, HE0, HZ0, HQ0⟩
  case round =>
    clear HSL HE0 HZ0 HQ0
    obtain ⟨k, hk, rfl, HSL, HE, HZ, HQ⟩ := hrel
    by_cases hlt : k < n
    · have ca := HQ.out.at (1 + k) (by omega)
      have cb := HQ.out.at (1 + n + k) (by omega)
      have hxa := HM.out (L[1 + k]'(by omega)) (List.getElem_mem _)
      have hxb := HM.out (L[1 + n + k]'(by omega)) (List.getElem_mem _)
      have HJa : Hid (joinL ((L.drop 1).take (k + 1)) = joinL ((L.drop 1).take k) ++ L[1 + k]'(by omega)) := hid (by
        rw [joinL_succ _ k (by rw [List.length_drop]; omega), List.getElem_drop])
      have HJb : Hid (joinL ((L.drop (1 + n)).take (k + 1)) = joinL ((L.drop (1 + n)).take k) ++ L[1 + n + k]'(by omega)) := hid (by
        rw [joinL_succ _ k (by rw [List.length_drop]; omega), List.getElem_drop])
      obtain ⟨xa, ha⟩ : ∃ x, L[1 + k]'(by omega) = x := ⟨_, rfl⟩
      obtain ⟨xb, hb⟩ : ∃ x, L[1 + n + k]'(by omega) = x := ⟨_, rfl⟩
      rw [ha] at ca hxa HJa
      rw [hb] at cb hxb HJb
      have hPz := HT1.out k
      have hCz := HT2.out k
      rw [← joinL_tot] at hPz hCz
      obtain ⟨P, hP⟩ : ∃ P, joinL ((L.drop 1).take k) = P := ⟨_, rfl⟩
      obtain ⟨C, hC⟩ : ∃ C, joinL ((L.drop (1 + n)).take k) = C := ⟨_, rfl⟩
      rw [hP] at hPz HJa HSL
      rw [hC] at hCz HJb HSL
      obtain ⟨⟨g0, g1, g2⟩, gf, hgs⟩ := HSL.out
      have hn1 : ¬ 9223372036854775807 < P.size + xa.size := by omega
      have hn2 : ¬ 9223372036854775807 < C.size + xb.size := by omega
      obtain ⟨i1, hi1⟩ : ∃ i, 1 + k = i := ⟨_, rfl⟩
      obtain ⟨i2, hi2⟩ : ∃ i, 1 + n + k = i := ⟨_, rfl⟩
      rw [hi1] at ca
      rw [hi2] at cb
      have hwa : IntKind.i64.wrap (1 + (k : Int)) = (i1 : Int) := by rw [IntWalk.i64_in _ (by omega)]; omega
      have hwb : IntKind.i64.wrap (1 + (n : Int)) = 1 + (n : Int) := IntWalk.i64_in _ (by omega)
      have hwc : IntKind.i64.wrap (1 + (n : Int) + (k : Int)) = (i2 : Int) := by rw [IntWalk.i64_in _ (by omega)]; omega
      have hl1 : i1 < L.length := by omega
      have hl2 : i2 < L.length := by omega
      have ha0 : q ≠ g := hgq
      have HB2 : Hid (∀ h : i2 < L.length, L[i2] = xb) := hid (fun h => by subst hi2; exact hb)
      clear ha hb hP hC hi1 hi2
      go_wp2_with fail
      refine wp_region_flow_at (C := Ext) 9 [fun v _ => v = .pointer (some ⟨g, 1, none⟩), fun v _ => v = .string P, fun v _ => v = .slice (some ⟨q, 0, none⟩) L.length cL, fun v _ => v = .int .i64 (k : Int), fun v _ => v = .int .i64 (i1 : Int), fun v _ => v = .pointer (some ⟨q, i1, none⟩), fun v _ => v = .string xa, fun v _ => v = .string (P ++ xa), fun v _ => v = .pointer (some ⟨g, 1, none⟩)]
        [[(8, none)], [(49, some 0)], [(4, none)], [(9, none)], [(52, some 3)], [(51, some 2), (53, some 4)], [(54, some 5)], [(50, some 1), (55, some 6)], [(8, none)]] (by kernel_rfl) (by kernel_rfl) Ext.refl (fun _ _ _ => Ext.trans) ?_ ?_ ?_
      · intro F hF
        simp only [List.mem_cons, List.not_mem_nil, or_false] at hF
        rcases hF with rfl | rfl | rfl | rfl | rfl | rfl | rfl | rfl | rfl <;> exact fun _ _ _ h _ => h
      · refine ⟨?_, ?_, ?_, ?_, ?_, ?_, ?_, ?_, ?_, trivial⟩
        · rintro ρ w1 hw hcst hfn hk
          clear hw
          simp only [known, List.getD_cons_zero, List.getD_cons_succ, Nat.reduceAdd] at hk
          simp only [List.getD_cons_zero, List.getD_cons_succ, Nat.reduceAdd, flowAt]
          go_simp
          exact ⟨Ext.refl _, by first | rfl | trivial⟩
        · rintro ρ w1 hw hcst hfn hk
          have c0 := hw.cell (b := g) (o := 1) (v := .string P) (by first | (simp [*]; done) | (simp [*, go_sem]; done) | go_cell)
          clear hw
          simp only [known, List.getD_cons_zero, List.getD_cons_succ, Nat.reduceAdd] at hk
          simp only [List.getD_cons_zero, List.getD_cons_succ, Nat.reduceAdd, flowAt]
          go_simp
          exact ⟨Ext.refl _, by first | rfl | trivial⟩
        · rintro ρ w1 hw hcst hfn hk
          clear hw
          simp only [known, List.getD_cons_zero, List.getD_cons_succ, Nat.reduceAdd] at hk
          simp only [List.getD_cons_zero, List.getD_cons_succ, Nat.reduceAdd, flowAt]
          go_simp
          exact ⟨Ext.refl _, by first | rfl | trivial⟩
        · rintro ρ w1 hw hcst hfn hk
          clear hw
          simp only [known, List.getD_cons_zero, List.getD_cons_succ, Nat.reduceAdd] at hk
          simp only [List.getD_cons_zero, List.getD_cons_succ, Nat.reduceAdd, flowAt]
          go_simp
          exact ⟨Ext.refl _, by first | rfl | trivial⟩
        · rintro ρ w1 hw hcst hfn hk
          simp only [known, List.getD_cons_zero, List.getD_cons_succ, Nat.reduceAdd] at hk
          simp only [List.getD_cons_zero, List.getD_cons_succ, Nat.reduceAdd, flowAt]
          go_simp
          exact ⟨Ext.refl _, rfl⟩
        · rintro ρ w1 hw hcst hfn hk
          simp only [known, List.getD_cons_zero, List.getD_cons_succ, Nat.reduceAdd] at hk
          simp only [List.getD_cons_zero, List.getD_cons_succ, Nat.reduceAdd, flowAt]
          go_simp
          (rw [if_pos (by omega)]; exact ⟨Ext.refl _, rfl⟩)
        · rintro ρ w1 hw hcst hfn hk
          have c0 := hw.cell (b := q) (o := i1) (v := .string xa) (by first | (simp [*]; done) | (simp [*, go_sem]; done) | go_cell)
          clear hw
          simp only [known, List.getD_cons_zero, List.getD_cons_succ, Nat.reduceAdd] at hk
          simp only [List.getD_cons_zero, List.getD_cons_succ, Nat.reduceAdd, flowAt]
          go_simp
          exact ⟨Ext.refl _, by first | rfl | trivial⟩
        · rintro ρ w1 hw hcst hfn hk
          simp only [known, List.getD_cons_zero, List.getD_cons_succ, Nat.reduceAdd] at hk
          simp only [List.getD_cons_zero, List.getD_cons_succ, Nat.reduceAdd, flowAt]
          go_simp
          exact ⟨Ext.refl _, rfl⟩
        · rintro ρ w1 hw hcst hfn hk
          clear hw
          simp only [known, List.getD_cons_zero, List.getD_cons_succ, Nat.reduceAdd] at hk
          simp only [List.getD_cons_zero, List.getD_cons_succ, Nat.reduceAdd, flowAt]
          go_simp
          exact ⟨Ext.refl _, by first | rfl | trivial⟩
      intro vs w1 hw hf
      simp only [flowFacts, Nat.reduceAdd] at hf
      obtain ⟨e0, e1, e2, e3, e4, e5, e6, e7, e8, -⟩ := hf
      simp only [List.take_succ_cons, List.take_zero, List.drop_succ_cons, List.drop_zero, putAll, Act.put, Nat.reduceAdd, List.setIfInBounds_toArray, List.set_cons_zero, List.set_cons_succ, e0, e1, e2, e3, e4, e5, e6, e7, e8]
      clear e0 e1 e2 e3 e4 e5 e6 e7 e8
      have hx4 := (Ext.refl _).drew.trans hw
      obtain ⟨⟨g0, g1, g2⟩, gf, hgs⟩ := HSL.out.ext hx4
      have HSL4 := hid ((HSL.out.ext hx4).set1 (P ++ xa))
      have HZ4 := hid ((HZ.out.ext hx4).off (i := 1) (u := .string (P ++ xa)) hgR)
      have HQ4 := hid ((HQ.out.ext hx4).off (i := 1) (u := .string (P ++ xa)) hgq)
      have HE4 := hid ((HE.out.trans hx4).setCell (p := ⟨g, 1, none⟩) hg1 (.string (P ++ xa)))
      clear hw hx4 HSL HZ HQ HE ca cb hwa
      obtain ⟨P2, hP2⟩ : ∃ P2, P ++ xa = P2 := ⟨_, rfl⟩
      rw [hP2] at HSL4 HZ4 HQ4 HE4 HJa ⊢
      clear hP2
      go_wp2_with fail
      clear g0 g1 g2 gf hgs
      obtain ⟨W, hW⟩ : ∃ W, w1.setCell ⟨g, 1, none⟩ (.string P2) = W := ⟨_, rfl⟩
      rw [hW] at HSL4 HZ4 HQ4 HE4 ⊢
      clear hW
      obtain ⟨⟨g0, g1, g2⟩, gf, hgs⟩ := HSL4.out
      have cb := HQ4.out.at i2 hl2
      have hbx := HB2.out hl2
      rw [hbx] at cb
      clear hbx
      refine wp_region_flow_at (C := Ext) 11 [fun v _ => v = .pointer (some ⟨g, 2, none⟩), fun v _ => v = .string C, fun v _ => v = .slice (some ⟨q, 0, none⟩) L.length cL, fun v _ => v = .int .i64 (n : Int), fun v _ => v = .int .i64 (1 + (n : Int)), fun v _ => v = .int .i64 (k : Int), fun v _ => v = .int .i64 (i2 : Int), fun v _ => v = .pointer (some ⟨q, i2, none⟩), fun v _ => v = .string xb, fun v _ => v = .string (C ++ xb), fun v _ => v = .pointer (some ⟨g, 2, none⟩)]
        [[(8, none)], [(58, some 0)], [(4, none)], [(6, none)], [(61, some 3)], [(9, none)], [(62, some 4), (63, some 5)], [(60, some 2), (64, some 6)], [(65, some 7)], [(59, some 1), (66, some 8)], [(8, none)]] (by kernel_rfl) (by kernel_rfl) Ext.refl (fun _ _ _ => Ext.trans) ?_ ?_ ?_
      · intro F hF
        simp only [List.mem_cons, List.not_mem_nil, or_false] at hF
        rcases hF with rfl | rfl | rfl | rfl | rfl | rfl | rfl | rfl | rfl | rfl | rfl <;> exact fun _ _ _ h _ => h
      · refine ⟨?_, ?_, ?_, ?_, ?_, ?_, ?_, ?_, ?_, ?_, ?_, trivial⟩
        · rintro ρ w1 hw hcst hfn hk
          clear hw
          simp only [known, List.getD_cons_zero, List.getD_cons_succ, Nat.reduceAdd] at hk
          simp only [List.getD_cons_zero, List.getD_cons_succ, Nat.reduceAdd, flowAt]
          go_simp
          exact ⟨Ext.refl _, by first | rfl | trivial⟩
        · rintro ρ w1 hw hcst hfn hk
          have c0 := hw.cell (b := g) (o := 2) (v := .string C) (by first | (simp [*]; done) | (simp [*, go_sem]; done) | go_cell)
          clear hw
          simp only [known, List.getD_cons_zero, List.getD_cons_succ, Nat.reduceAdd] at hk
          simp only [List.getD_cons_zero, List.getD_cons_succ, Nat.reduceAdd, flowAt]
          go_simp
          exact ⟨Ext.refl _, by first | rfl | trivial⟩
        · rintro ρ w1 hw hcst hfn hk
          clear hw
          simp only [known, List.getD_cons_zero, List.getD_cons_succ, Nat.reduceAdd] at hk
          simp only [List.getD_cons_zero, List.getD_cons_succ, Nat.reduceAdd, flowAt]
          go_simp
          exact ⟨Ext.refl _, by first | rfl | trivial⟩
        · rintro ρ w1 hw hcst hfn hk
          clear hw
          simp only [known, List.getD_cons_zero, List.getD_cons_succ, Nat.reduceAdd] at hk
          simp only [List.getD_cons_zero, List.getD_cons_succ, Nat.reduceAdd, flowAt]
          go_simp
          exact ⟨Ext.refl _, by first | rfl | trivial⟩
        · rintro ρ w1 hw hcst hfn hk
          clear hw
          simp only [known, List.getD_cons_zero, List.getD_cons_succ, Nat.reduceAdd] at hk
          simp only [List.getD_cons_zero, List.getD_cons_succ, Nat.reduceAdd, flowAt]
          go_simp
          exact ⟨Ext.refl _, by first | rfl | trivial⟩
        · rintro ρ w1 hw hcst hfn hk
          clear hw
          simp only [known, List.getD_cons_zero, List.getD_cons_succ, Nat.reduceAdd] at hk
          simp only [List.getD_cons_zero, List.getD_cons_succ, Nat.reduceAdd, flowAt]
          go_simp
          exact ⟨Ext.refl _, by first | rfl | trivial⟩
        · rintro ρ w1 hw hcst hfn hk
          simp only [known, List.getD_cons_zero, List.getD_cons_succ, Nat.reduceAdd] at hk
          simp only [List.getD_cons_zero, List.getD_cons_succ, Nat.reduceAdd, flowAt]
          go_simp
          exact ⟨Ext.refl _, rfl⟩
        · rintro ρ w1 hw hcst hfn hk
          simp only [known, List.getD_cons_zero, List.getD_cons_succ, Nat.reduceAdd] at hk
          simp only [List.getD_cons_zero, List.getD_cons_succ, Nat.reduceAdd, flowAt]
          go_simp
          (rw [if_pos (by omega)]; exact ⟨Ext.refl _, rfl⟩)
        · rintro ρ w1 hw hcst hfn hk
          have c0 := hw.cell (b := q) (o := i2) (v := .string xb) (by first | (simp [*]; done) | (simp [*, go_sem]; done) | go_cell)
          clear hw
          simp only [known, List.getD_cons_zero, List.getD_cons_succ, Nat.reduceAdd] at hk
          simp only [List.getD_cons_zero, List.getD_cons_succ, Nat.reduceAdd, flowAt]
          go_simp
          exact ⟨Ext.refl _, by first | rfl | trivial⟩
        · rintro ρ w1 hw hcst hfn hk
          simp only [known, List.getD_cons_zero, List.getD_cons_succ, Nat.reduceAdd] at hk
          simp only [List.getD_cons_zero, List.getD_cons_succ, Nat.reduceAdd, flowAt]
          go_simp
          exact ⟨Ext.refl _, rfl⟩
        · rintro ρ w1 hw hcst hfn hk
          clear hw
          simp only [known, List.getD_cons_zero, List.getD_cons_succ, Nat.reduceAdd] at hk
          simp only [List.getD_cons_zero, List.getD_cons_succ, Nat.reduceAdd, flowAt]
          go_simp
          exact ⟨Ext.refl _, by first | rfl | trivial⟩
      intro vs w1 hw hf
      simp only [flowFacts, Nat.reduceAdd] at hf
      obtain ⟨e0, e1, e2, e3, e4, e5, e6, e7, e8, e9, e10, -⟩ := hf
      simp only [List.take_succ_cons, List.take_zero, List.drop_succ_cons, List.drop_zero, putAll, Act.put, Nat.reduceAdd, List.setIfInBounds_toArray, List.set_cons_zero, List.set_cons_succ, e0, e1, e2, e3, e4, e5, e6, e7, e8, e9, e10]
      clear e0 e1 e2 e3 e4 e5 e6 e7 e8 e9 e10
      have hx5 := (Ext.refl _).drew.trans hw
      obtain ⟨⟨d0, d1, d2⟩, df, hds⟩ := HSL4.out.ext hx5
      have HSL5 := hid ((HSL4.out.ext hx5).set2 (C ++ xb))
      have HZ5 := hid ((HZ4.out.ext hx5).off (i := 2) (u := .string (C ++ xb)) hgR)
      have HQ5 := hid ((HQ4.out.ext hx5).off (i := 2) (u := .string (C ++ xb)) hgq)
      have HE5 := hid ((HE4.out.trans hx5).setCell (p := ⟨g, 2, none⟩) hg1 (.string (C ++ xb)))
      clear hw hx5 HSL4 HZ4 HQ4 HE4 cb hwb hwc g0 g1 g2 gf hgs
      go_wp2_with fail
      go_roundw
      case rel => exact ⟨k + 1, by omega, by go_num, hid (by rw [HJa.out, HJb.out]; exact HSL5.out), HE5, HZ5, HQ5⟩
      case measure => simp [intOf]; omega
    · obtain rfl : k = n := by omega
      have hPz := HT1.out k
      have hCz := HT2.out k
      rw [← joinL_tot] at hPz hCz
      obtain ⟨P, hP⟩ : ∃ P, joinL ((L.drop 1).take k) = P := ⟨_, rfl⟩
      obtain ⟨C, hC⟩ : ∃ C, joinL ((L.drop (1 + k)).take k) = C := ⟨_, rfl⟩
      rw [hP] at hPz HSL
      rw [hC] at hCz HSL
      have HPD : Hid (∀ (m : Nat) (p c : ByteArray), okB m p c = true → textB m p c = s → k = m ∧ P = p ∧ C = c) := hid (fun m p c h1 h2 => by
        have := HPC.out m p c h1 h2
        rw [hP, hC] at this
        exact this)
      have HV := hid (fun w' (h : BdAt w' g 0 k P C) => l11Ok_any g 0 k P C w' h hPz hCz)
      clear hP hC hlt hk
      cases hok : okB k P C
      · rw [hok] at HV
        have HOK := hid hok
        clear hok
        go_wp2_with fail
        refine (HV.out _ HSL.out.1).mono ?_
        rintro e w5 ⟨rfl, hD⟩
        have hE := HE.out.trans hD.ext
        obtain ⟨r0, r1, r2, rf, hR⟩ := HZ.out.ext hD.ext
        clear hD
        go_wp2_with fail
        have hV : readV s = .tuple #[boardV 0 noS noS, .bool false] := readV_no (fun m p c h1 h2 => by
          obtain ⟨rfl, rfl, rfl⟩ := HPD.out m p c h1 h2
          rw [HOK.out] at h1
          cases h1
          )
        refine bodyPost_ret (v := .tuple #[boardV 0 noS noS, .bool false]) (by simp [results, Tryz.results23, go_sem, r0, r1, r2, rf, noS, boardV]) rfl ⟨by rw [hV], ((hE.setCell (by simp) _).setCell (by simp) _).setCell (by simp) _⟩
      · obtain ⟨-, -, h3, h4⟩ := okB_true hok
        have hp2 : P.size = k * k := by have : ((k * k : Nat) : Int) = (k : Int) * k := by push_cast; rfl
                                        omega
        have hc2 : C.size = k * k := by have : ((k * k : Nat) : Int) = (k : Int) * k := by push_cast; rfl
                                        omega
        have HTX := hid (fun w' (h : BdAt w' g 0 k P C) => l11Text_any g 0 k P C w' h hp2 hc2 hn5 hn15)
        rw [hok] at HV
        have HOK := hid hok
        clear hok h3 h4 hp2 hc2
        obtain ⟨X, hX⟩ : ∃ X, textB k P C = X := ⟨_, rfl⟩
        have HX := hid hX
        rw [hX] at HTX
        clear hX
        go_wp2_with fail
        refine (HV.out _ HSL.out.1).mono ?_
        rintro e w5 ⟨rfl, hD⟩
        have HE5 := hid (HE.out.trans hD.ext)
        have HSL5 := hid (HSL.out.ext hD.ext)
        have HZ5 := hid (HZ.out.ext hD.ext)
        clear hD
        go_wp2_with fail
        refine (HTX.out _ HSL5.out.1).mono ?_
        rintro e w6 ⟨rfl, hx6⟩
        have hE := HE5.out.trans hx6
        obtain ⟨⟨d0, d1, d2⟩, df, hds⟩ := HSL5.out.ext hx6
        obtain ⟨r0, r1, r2, rf, hR⟩ := HZ5.out.ext hx6
        clear hx6
        by_cases hq : X = s
        · have hq1 : (X.toList == s.toList) = true := by rw [bytes_beqN, decide_eq_true hq]
          have hV : readV s = .tuple #[boardV k P C, .bool true] := readV_yes HOK.out (by rw [HX.out]; exact hq)
          go_wp2_with fail
          refine bodyPost_ret (v := .tuple #[boardV k P C, .bool true]) (by simp [results, Tryz.results23, go_sem, r0, r1, r2, rf, boardV]) rfl ⟨by rw [hV], ((hE.setCell (by simp) _).setCell (by simp) _).setCell (by simp) _⟩
        · have hq1 : (X.toList == s.toList) = false := by rw [bytes_beqN, decide_eq_false hq]
          go_wp2_with fail
          have hV : readV s = .tuple #[boardV 0 noS noS, .bool false] := readV_no (fun m p c h1 h2 => by
            obtain ⟨rfl, rfl, rfl⟩ := HPD.out m p c h1 h2
            exact hq (by rw [← HX.out]; exact h2)
            )
          refine bodyPost_ret (v := .tuple #[boardV 0 noS noS, .bool false]) (by simp [results, Tryz.results23, go_sem, r0, r1, r2, rf, noS, boardV]) rfl ⟨by rw [hV], ((hE.setCell (by simp) _).setCell (by simp) _).setCell (by simp) _⟩
end Go.Proofs.YtmohfdfjlgekaaaGreatDoor
