/- ReadPlay, by the reference. Conditions: at most 2^20 bytes. -/
import Derived.Test.YtdecakimhjieeaaDoorCh12u
namespace Go.Proofs.YtdecakimhjieeaaDoor
set_option linter.unusedVariables false
set_option linter.unusedSimpArgs false
open Go Go.RowKit
theorem plc_back {P : ByteArray} (h : 2 ≤ P.size) {R C : Int} (hN : plcN P = decS (R + 1).toNat) (hL : ((plcL P).toNat : Int) = 97 + C) (h0 : 0 ≤ C) (h1 : C ≤ 14) : P = plcS R C (plcD P) := by
  have hu : UInt8.ofNat (97 + C.toNat) = plcL P := by
    apply UInt8.toNat_inj.1
    rw [colU C h0 h1]
    omega
  apply ba_list
  rw [plcS_list, hu, ← hN]
  have hl := list_len P
  unfold plcN plcL
  cases hD : plcD P
  · simp only [Bool.false_eq_true, if_false]
    rw [extract_list, List.drop_zero, Nat.sub_zero]
    have h2 := at_someC (show P.size - 1 < P.size by omega)
    have h3 := List.take_add_one (l := P.data.toList) (i := P.size - 1)
    rw [h2, show P.size - 1 + 1 = P.data.toList.length by omega, List.take_length] at h3
    exact h3
  · simp only [if_true]
    rw [extract_list, ← hl]
    have h2 := at_someC (show 0 < P.size by omega)
    cases hx : P.data.toList with
    | nil => rw [hx] at hl; simp at hl; omega
    | cons a t =>
      rw [hx] at h2
      simp only [List.getElem?_cons_zero, Option.some.injEq] at h2
      rw [h2]
      simp
theorem rebuild {s P Wd : ByteArray} (hs : splitC 32 s = [P, Wd]) (h : 2 ≤ P.size) (R C : Int) (hok : playOk R C Wd = true) (hN : plcN P = decS (R + 1).toNat) (hL : ((plcL P).toNat : Int) = 97 + C) : playT R C (plcD P) Wd = s := by
  obtain ⟨h1, h2, h3, h4, -⟩ := playOk_in hok
  apply ba_list
  rw [playT_list hok, split_two hs, ← plc_back h hN hL h3 h4]
theorem PSlot.set2 {w : World} {g : Nat} {r c : Int} {d : Bool} {t : ByteArray} (h : PSlot w g r c d t) (d' : Bool) : PSlot (w.setCell ⟨g, 2, none⟩ (.bool d')) g r c d' t :=
  ⟨by rw [World.cell?_setCell_other _ _ _ _ (by simp)]; exact h.1, by rw [World.cell?_setCell_other _ _ _ _ (by simp)]; exact h.2.1, World.cell?_setCell_same _ _ _ h.2.2.1, by rw [World.cell?_setCell_other _ _ _ _ (by simp)]; exact h.2.2.2.1, fun j => by simpa using h.2.2.2.2.1 j, by simpa using h.2.2.2.2.2⟩
theorem PSlot.set3 {w : World} {g : Nat} {r c : Int} {d : Bool} {t : ByteArray} (h : PSlot w g r c d t) (t' : ByteArray) : PSlot (w.setCell ⟨g, 3, none⟩ (.string t')) g r c d t' :=
  ⟨by rw [World.cell?_setCell_other _ _ _ _ (by simp)]; exact h.1, by rw [World.cell?_setCell_other _ _ _ _ (by simp)]; exact h.2.1, by rw [World.cell?_setCell_other _ _ _ _ (by simp)]; exact h.2.2.1, World.cell?_setCell_same _ _ _ h.2.2.2.1, fun j => by simpa using h.2.2.2.2.1 j, by simpa using h.2.2.2.2.2⟩
theorem says_split {s P Wd : ByteArray} (hs : splitC 32 s = [P, Wd]) : SaysP s P Wd := fun r c d t h e => by
  obtain ⟨-, h1, h3⟩ := place_of (d := d) h e
  obtain ⟨a1, a2, a3, a4, -⟩ := playOk_in h
  obtain ⟨p1, p2, p3, p4⟩ := plcS_parts d a1 a2 a3 a4
  rw [hs] at h1
  injection h1 with h4 h5
  injection h5 with h5 _
  rw [h4, h5]
  exact ⟨h3, p1, p2, p3, p4, rfl, a1, a2, a3, a4⟩
set_option maxRecDepth 100000 in
set_option maxHeartbeats 4000000 in
theorem l12Read_any (s : ByteArray) (w : World) (hs : s.size ≤ 1048576) : Calls Tryd.prog 38 #[.string s] w (Ret (readP s) w) := by
  have HL := hid (fun w' => l01Split_c 32 s w' hs)
  have HPO := hid (fun r c d t h e => (@place_of r c d t s h e).2.1)
  have HSS := hid (fun P Wd h => @says_split s P Wd h)
  have HRB := hid (fun P Wd h => @rebuild s P Wd h)
  have hLp : 0 < (splitC 32 s).length := by rw [splitC_length]; omega
  have htot := tot_split 32 s
  obtain ⟨V, hV⟩ : ∃ V, splitC 32 s = V := ⟨_, rfl⟩
  rw [hV] at HL HPO HSS HRB hLp htot
  clear hV
  go_enter Tryd.func38, Tryd.ntmps38
  go_wp2_with fail
  refine (HL.out _).mono ?_
  rintro e w1 ⟨a, cL, rfl, ho, hx⟩
  obtain ⟨q, rfl, hq1, hq⟩ := Rq.of (w' := w1) ho hLp
  have HZ := hid ((PSlot.new w 0 0 false ⟨#[]⟩).ext hx)
  have hE := ((Ext.refl w).alloc (.cells #[.int .i64 0, .int .i64 0, .bool false, .string ⟨#[]⟩] 37)).trans hx
  clear hx ho
  by_cases h2 : V.length = 2
  case neg =>
    have h2i : ((V.length : Int) == 2) = false := by rw [beq_eq_false_iff_ne]; omega
    obtain ⟨r0, r1, r2, r3, rf, hR⟩ := HZ.out
    go_wp2_with fail
    have hV : readP s = .tuple #[playV 0 0 false ⟨#[]⟩, .bool false] := readP_no (fun r c d t h1 h2 => by
      have := HPO.out r c d t h1 h2
      simp_all
      )
    refine bodyPost_ret (v := .tuple #[playV 0 0 false ⟨#[]⟩, .bool false]) (by simp [results, Tryd.results38, go_sem, r0, r1, r2, r3, rf]) rfl ⟨by rw [hV], (((hE.setCell (by simp) _).setCell (by simp) _).setCell (by simp) _).setCell (by simp) _⟩
  obtain ⟨P, Wd, rfl⟩ : ∃ P Wd, V = [P, Wd] := by
    match V, h2 with
    | [a, b], _ => exact ⟨a, b, rfl⟩
  have c0 : w1.cell? ⟨q, 0, none⟩ = some (.string P) := hq.at 0 (by simp)
  have c1 : w1.cell? ⟨q, 1, none⟩ = some (.string Wd) := hq.at 1 (by simp)
  have hPs : P.size ≤ 1048576 := by have := tot_mem (show P ∈ [P, Wd] by simp); omega
  have hWs : Wd.size ≤ 1048576 := by have := tot_mem (show Wd ∈ [P, Wd] by simp); omega
  have HSY := hid (HSS.out P Wd rfl)
  have HR := hid (HRB.out P Wd rfl)
  clear HL HPO HSS HRB hLp htot h2
  by_cases hP2 : P.size < 2
  · have hP2i : (P.size : Int) < 2 := by omega
    obtain ⟨r0, r1, r2, r3, rf, hR⟩ := HZ.out
    go_wp2_with fail
    have hV : readP s = .tuple #[playV 0 0 false ⟨#[]⟩, .bool false] := readP_no (fun r c d t h1 h2 => by
      have := (HSY.out r c d t h1 h2).2.1
      omega
      )
    refine bodyPost_ret (v := .tuple #[playV 0 0 false ⟨#[]⟩, .bool false]) (by simp [results, Tryd.results38, go_sem, r0, r1, r2, r3, rf]) rfl ⟨by rw [hV], (((hE.setCell (by simp) _).setCell (by simp) _).setCell (by simp) _).setCell (by simp) _⟩
  have hP2i : ¬ (P.size : Int) < 2 := by omega
  replace HR := hid (HR.out (by omega))
  obtain ⟨k, hk⟩ : ∃ k, P.size = k + 1 := ⟨P.size - 1, by omega⟩
  have hlt0 : 0 < P.size := by omega
  have hltk : k < P.size := by omega
  obtain ⟨u0, hu0⟩ : ∃ u, P[0] = u := ⟨_, rfl⟩
  obtain ⟨u1, hu1⟩ : ∃ u, P[k] = u := ⟨_, rfl⟩
  have hb0 : bAt P 0 = u0 := by rw [← bAt_eq P 0 hlt0]; exact hu0
  have hb1 : bAt P k = u1 := by rw [← bAt_eq P k hltk]; exact hu1
  obtain ⟨D, hD⟩ : ∃ D, smallB (u0.toNat : Int) = D := ⟨_, rfl⟩
  have HD : Hid (plcD P = D) := hid (by unfold plcD; rw [hb0]; exact hD)
  have HSM := hid (fun w' => l01Small_any (u0.toNat : Int) w')
  rw [hD] at HSM
  have hR := HZ.out.2.2.2.2.2
  obtain ⟨E, hE0⟩ : ∃ E, P.extract 0 k = E := ⟨_, rfl⟩
  obtain ⟨E1, hE1⟩ : ∃ E, P.extract 1 (k + 1) = E := ⟨_, rfl⟩
  have hEs : E.size ≤ 1048576 := by rw [← hE0, ByteArray.size_extract]; omega
  have hE1s : E1.size ≤ 1048576 := by rw [← hE1, ByteArray.size_extract]; omega
  have HNA : Hid (plcN P = if D then E1 else E) := hid (by
    unfold plcN
    rw [HD.out, show P.size - 1 = k by omega, hE0, hk, hE1])
  have HLA : Hid (plcL P = if D then u0 else u1) := hid (by
    unfold plcL
    rw [HD.out, hb0, show P.size - 1 = k by omega, hb1])
  clear hD hb0 hb1
  go_wp2_with fail
  refine wp_region_flow_at (C := Ext) 8 [fun v _ => v = .slice (some ⟨q, 0, none⟩) 2 cL, fun v _ => v = .pointer (some ⟨q, 1, none⟩), fun v _ => v = .string Wd, fun v _ => v = .string P, fun v _ => v = .int .u8 (u0.toNat : Int), fun v _ => v = .bool D, fun v _ => v = .agg #[.int .i64 0, .int .i64 0, .bool D, .string Wd], fun v w' => ∃ g, v = .pointer (some ⟨g, 0, none⟩) ∧ w1.heap.size ≤ g ∧ PSlot w' g 0 0 false ⟨#[]⟩]
    [[(4, none)], [(27, some 0)], [(28, some 1)], [(5, none)], [(30, some 3)], [(31, some 4)], [(29, some 2), (32, some 5)], []] (by kernel_rfl) (by kernel_rfl) Ext.refl (fun _ _ _ => Ext.trans) ?_ ?_ ?_
  · intro F hF
    simp only [List.mem_cons, List.not_mem_nil, or_false] at hF
    rcases hF with rfl | rfl | rfl | rfl | rfl | rfl | rfl | rfl
    · exact fun _ _ _ h _ => h
    · exact fun _ _ _ h _ => h
    · exact fun _ _ _ h _ => h
    · exact fun _ _ _ h _ => h
    · exact fun _ _ _ h _ => h
    · exact fun _ _ _ h _ => h
    · exact fun _ _ _ h _ => h
    · exact fun _ _ _ ⟨g, h1, h2, h3⟩ k => ⟨g, h1, h2, h3.ext k⟩
  · refine ⟨?_, ?_, ?_, ?_, ?_, ?_, ?_, ?_, trivial⟩
    · rintro ρ w1 hw hcst hfn hk
      clear hw
      simp only [known, List.getD_cons_zero, List.getD_cons_succ, Nat.reduceAdd] at hk
      simp only [List.getD_cons_zero, List.getD_cons_succ, Nat.reduceAdd, flowAt]
      go_simp
      exact ⟨Ext.refl _, by first | rfl | trivial⟩
    · rintro ρ w1 hw hcst hfn hk
      simp only [known, List.getD_cons_zero, List.getD_cons_succ, Nat.reduceAdd] at hk
      simp only [List.getD_cons_zero, List.getD_cons_succ, Nat.reduceAdd, flowAt]
      go_simp
      exact ⟨Ext.refl _, rfl⟩
    · rintro ρ w1 hw hcst hfn hk
      have c0 := hw.cell (b := q) (o := 1) (v := .string Wd) (by first | (simp [*]; done) | (simp [*, go_sem]; done) | go_cell)
      clear hw
      simp only [known, List.getD_cons_zero, List.getD_cons_succ, Nat.reduceAdd] at hk
      simp only [List.getD_cons_zero, List.getD_cons_succ, Nat.reduceAdd, flowAt]
      go_simp
      exact ⟨Ext.refl _, by first | rfl | trivial⟩
    · rintro ρ w1 hw hcst hfn hk
      clear hw
      simp only [known, List.getD_cons_zero, List.getD_cons_succ, Nat.reduceAdd] at hk
      simp only [List.getD_cons_zero, List.getD_cons_succ, Nat.reduceAdd, flowAt]
      go_simp
      exact ⟨Ext.refl _, by first | rfl | trivial⟩
    · rintro ρ w1 hw hcst hfn hk
      simp only [known, List.getD_cons_zero, List.getD_cons_succ, Nat.reduceAdd] at hk
      simp only [List.getD_cons_zero, List.getD_cons_succ, Nat.reduceAdd, flowAt]
      go_simp
      exact ⟨Ext.refl _, rfl⟩
    · rintro ρ w1 hw hcst hfn hk
      simp only [known, List.getD_cons_zero, List.getD_cons_succ, Nat.reduceAdd] at hk
      simp only [List.getD_cons_zero, List.getD_cons_succ, Nat.reduceAdd, flowAt]
      go_simp
      exact flow_same (HSM.out _)
    · rintro ρ w1 hw hcst hfn hk
      simp only [known, List.getD_cons_zero, List.getD_cons_succ, Nat.reduceAdd] at hk
      simp only [List.getD_cons_zero, List.getD_cons_succ, Nat.reduceAdd, flowAt]
      go_simp
      exact ⟨Ext.refl _, rfl⟩
    · rintro ρ w1 hw hcst hfn hk
      simp only [known, List.getD_cons_zero, List.getD_cons_succ, Nat.reduceAdd] at hk
      simp only [List.getD_cons_zero, List.getD_cons_succ, Nat.reduceAdd, flowAt]
      go_simp
      exact ⟨(Ext.refl _).alloc _, _, rfl, ((Ext.refl _).drew.trans hw).size, PSlot.new _ _ _ _ _⟩
  intro vs w1 hw hf
  simp only [flowFacts, Nat.reduceAdd] at hf
  obtain ⟨e0, e1, e2, e3, e4, e5, e6, e7, -⟩ := hf
  simp only [List.take_succ_cons, List.take_zero, List.drop_succ_cons, List.drop_zero, putAll, Act.put, Nat.reduceAdd, List.setIfInBounds_toArray, List.set_cons_zero, List.set_cons_succ, e0, e1, e2, e3, e4, e5, e6]
  clear e0 e1 e2 e3 e4 e5 e6
  obtain ⟨g, e7v, hgl, HG⟩ := e7
  rw [e7v]
  have hx4 := (Ext.refl _).drew.trans hw
  have hE4 := hE.trans hx4
  have HZ4 := hid (HZ.out.ext hx4)
  have hgR : w.heap.size ≠ g := by omega
  have hg1 : w.heap.size ≤ g := by omega
  obtain ⟨g0, g1, g2, g3, gf, hgs⟩ := HG
  have HSLa := hid ((((show PSlot w1 g 0 0 false ⟨#[]⟩ from ⟨g0, g1, g2, g3, gf, hgs⟩).set0 0).set1 0).set2 D |>.set3 Wd)
  have HZa := hid ((((HZ4.out.off (i := 0) (u := .int .i64 0) hgR).off (i := 1) (u := .int .i64 0) hgR).off (i := 2) (u := .bool D) hgR).off (i := 3) (u := .string Wd) hgR)
  have hEa := (((hE4.setCell (p := ⟨g, 0, none⟩) hg1 (.int .i64 0)).setCell (p := ⟨g, 1, none⟩) hg1 (.int .i64 0)).setCell (p := ⟨g, 2, none⟩) hg1 (.bool D)).setCell (p := ⟨g, 3, none⟩) hg1 (.string Wd)
  clear hw e7v hx4 c0 c1
  obtain ⟨W, hWW⟩ : ∃ W, (((w1.setCell ⟨g, 0, none⟩ (.int .i64 0)).setCell ⟨g, 1, none⟩ (.int .i64 0)).setCell ⟨g, 2, none⟩ (.bool D)).setCell ⟨g, 3, none⟩ (.string Wd) = W := ⟨_, rfl⟩
  rw [hWW] at HSLa HZa hEa
  obtain ⟨d0, d1, d2, d3, df, hds⟩ := HSLa.out
  cases D
  case true =>
    have HN1 : Hid (plcN P = E1) := hid (by rw [HNA.out]; rfl)
    have HL1 : Hid (plcL P = u0) := hid (by rw [HLA.out]; rfl)
    have HRD := hid (fun w' => l01Number_ex E1 w' hE1s)
    clear HNA HLA
    go_wp2_with (rw [hWW]; clear hWW)
    refine (HRD.out _).mono ?_
    rintro e w3 ⟨z, ok, rfl, hz, hx⟩
    have hE3 := hEa.trans hx
    have HSL := hid (HSLa.out.ext hx)
    have HZ3 := hid (HZa.out.ext hx)
    have hub : u0.toNat < 256 := u0.toNat_lt
    obtain ⟨Rz, hRz⟩ : ∃ R, IntKind.i64.wrap (z - 1) = R := ⟨_, rfl⟩
    obtain ⟨Cz, hCz⟩ : ∃ C : Int, (u0.toNat : Int) - 97 = C := ⟨_, rfl⟩
    have hCw : IntKind.i64.wrap Cz = Cz := IntWalk.i64_in _ (by omega)
    have HPL := hid (fun w' => l12Plain_any Rz Cz true Wd w' hWs)
    have HNR := hid hz
    have HRZ := hid hRz
    have HCZ := hid hCz
    have HG : Hid (∀ (r c : Int) (d : Bool) (t : ByteArray), playOk r c t = true → playT r c d t = s → Rz = r ∧ Cz = c ∧ Wd = t ∧ ok = true) := hid (fun r c d t h1 h2 => by
      obtain ⟨y1, y2, y3, y4, y5, y6, y7, y8, y9, y10⟩ := HSY.out r c d t h1 h2
      rw [HN1.out] at y4
      rw [HL1.out] at y5
      obtain ⟨z1, z2⟩ := hz.2.2.2 (r + 1).toNat (by omega) (by omega) y4
      have hr : Rz = r := by rw [← hRz, IntWalk.i64_in _ (by omega)]; omega
      have hc : Cz = c := by omega
      exact ⟨hr, hc, y6, z2⟩)
    clear hz hx HRD d0 d1 d2 d3 df hds g0 g1 g2 g3 gf hgs
    obtain ⟨d0, d1, d2, d3, df, hds⟩ := HSL.out
    have HSL4 := hid ((HSL.out.set0 Rz).set1 Cz)
    have HZ5 := hid ((HZ3.out.off (i := 0) (u := .int .i64 Rz) hgR).off (i := 1) (u := .int .i64 Cz) hgR)
    have hE5 := (hE3.setCell (p := ⟨g, 0, none⟩) hg1 (.int .i64 Rz)).setCell (p := ⟨g, 1, none⟩) hg1 (.int .i64 Cz)
    obtain ⟨W2, hWW2⟩ : ∃ W, (w3.setCell ⟨g, 0, none⟩ (.int .i64 Rz)).setCell ⟨g, 1, none⟩ (.int .i64 Cz) = W := ⟨_, rfl⟩
    rw [hWW2] at HSL4 HZ5 hE5
    obtain ⟨e0, e1, e2, e3, ef, hes⟩ := HSL4.out
    cases ok
    · obtain ⟨r0, r1, r2, r3, rf, hRR⟩ := HZ5.out
      go_wp2_with (rw [hWW2]; clear hWW2)
      have hV : readP s = .tuple #[playV 0 0 false ⟨#[]⟩, .bool false] := readP_no (fun r c d t h1 h2 => by
        have := (HG.out r c d t h1 h2).2.2.2
        cases this
        )
      refine bodyPost_ret (v := .tuple #[playV 0 0 false ⟨#[]⟩, .bool false]) (by simp [results, Tryd.results38, go_sem, r0, r1, r2, r3, rf]) rfl ⟨by rw [hV], (((hE5.setCell (by simp) _).setCell (by simp) _).setCell (by simp) _).setCell (by simp) _⟩
    cases hok : playOk Rz Cz Wd
    · rw [hok] at HPL
      have HOK := hid hok
      clear hok
      go_wp2_with (rw [hWW2]; clear hWW2)
      refine (HPL.out _).mono ?_
      rintro e w5 ⟨rfl, hx⟩
      have hE6 := hE5.trans hx
      obtain ⟨r0, r1, r2, r3, rf, hRR⟩ := HZ5.out.ext hx
      clear hx e0 e1 e2 e3 ef hes d0 d1 d2 d3 df hds
      go_wp2_with fail
      have hV : readP s = .tuple #[playV 0 0 false ⟨#[]⟩, .bool false] := readP_no (fun r c d t h1 h2 => by
        obtain ⟨y1, y2, y3, -⟩ := HG.out r c d t h1 h2
        rw [← y1, ← y2, ← y3, HOK.out] at h1
        cases h1
        )
      refine bodyPost_ret (v := .tuple #[playV 0 0 false ⟨#[]⟩, .bool false]) (by simp [results, Tryd.results38, go_sem, r0, r1, r2, r3, rf]) rfl ⟨by rw [hV], (((hE6.setCell (by simp) _).setCell (by simp) _).setCell (by simp) _).setCell (by simp) _⟩
    · rw [hok] at HPL
      have hV : readP s = .tuple #[playV Rz Cz true Wd, .bool true] := by
        obtain ⟨a1, a2, a3, a4, -⟩ := playOk_in hok
        have hn := HNR.out
        have hzz : z = Rz + 1 := by
          have h5 := HRZ.out
          by_cases hm : z = -9223372036854775808
          · subst hm
            exfalso
            have h6 : IntKind.i64.wrap (-9223372036854775808 - 1) = 9223372036854775807 := by decide
            omega
          · rw [IntWalk.i64_in _ (by have := hn.1; have := hn.2.1; omega)] at h5
            omega
        refine readP_yes hok ?_
        rw [← HR.out Rz Cz hok (by rw [HN1.out, hn.2.2.1 rfl (by omega) (by omega), hzz]) (by rw [HL1.out]; have := HCZ.out; omega), HD.out]
      clear hok
      go_wp2_with (rw [hWW2]; clear hWW2)
      refine (HPL.out _).mono ?_
      rintro e w5 ⟨rfl, hx⟩
      have hE6 := hE5.trans hx
      obtain ⟨r0, r1, r2, r3, rf, hRR⟩ := HZ5.out.ext hx
      obtain ⟨q0, q1, q2, q3, qf, hqs⟩ := HSL4.out.ext hx
      clear hx e0 e1 e2 e3 ef hes d0 d1 d2 d3 df hds
      go_wp2_with fail
      refine bodyPost_ret (v := .tuple #[playV Rz Cz true Wd, .bool true]) (by simp [results, Tryd.results38, go_sem, r0, r1, r2, r3, rf]) rfl ⟨by rw [hV], (((hE6.setCell (by simp) _).setCell (by simp) _).setCell (by simp) _).setCell (by simp) _⟩
  case false =>
    have HN1 : Hid (plcN P = E) := hid (by rw [HNA.out]; rfl)
    have HL1 : Hid (plcL P = u1) := hid (by rw [HLA.out]; rfl)
    have HRD := hid (fun w' => l01Number_ex E w' hEs)
    clear HNA HLA
    go_wp2_with (rw [hWW]; clear hWW)
    refine (HRD.out _).mono ?_
    rintro e w3 ⟨z, ok, rfl, hz, hx⟩
    have hE3 := hEa.trans hx
    have HSL := hid (HSLa.out.ext hx)
    have HZ3 := hid (HZa.out.ext hx)
    have hub : u1.toNat < 256 := u1.toNat_lt
    obtain ⟨Rz, hRz⟩ : ∃ R, IntKind.i64.wrap (z - 1) = R := ⟨_, rfl⟩
    obtain ⟨Cz, hCz⟩ : ∃ C : Int, (u1.toNat : Int) - 97 = C := ⟨_, rfl⟩
    have hCw : IntKind.i64.wrap Cz = Cz := IntWalk.i64_in _ (by omega)
    have HPL := hid (fun w' => l12Plain_any Rz Cz false Wd w' hWs)
    have HNR := hid hz
    have HRZ := hid hRz
    have HCZ := hid hCz
    have HG : Hid (∀ (r c : Int) (d : Bool) (t : ByteArray), playOk r c t = true → playT r c d t = s → Rz = r ∧ Cz = c ∧ Wd = t ∧ ok = true) := hid (fun r c d t h1 h2 => by
      obtain ⟨y1, y2, y3, y4, y5, y6, y7, y8, y9, y10⟩ := HSY.out r c d t h1 h2
      rw [HN1.out] at y4
      rw [HL1.out] at y5
      obtain ⟨z1, z2⟩ := hz.2.2.2 (r + 1).toNat (by omega) (by omega) y4
      have hr : Rz = r := by rw [← hRz, IntWalk.i64_in _ (by omega)]; omega
      have hc : Cz = c := by omega
      exact ⟨hr, hc, y6, z2⟩)
    clear hz hx HRD d0 d1 d2 d3 df hds g0 g1 g2 g3 gf hgs
    obtain ⟨d0, d1, d2, d3, df, hds⟩ := HSL.out
    have HSL4 := hid ((HSL.out.set0 Rz).set1 Cz)
    have HZ5 := hid ((HZ3.out.off (i := 0) (u := .int .i64 Rz) hgR).off (i := 1) (u := .int .i64 Cz) hgR)
    have hE5 := (hE3.setCell (p := ⟨g, 0, none⟩) hg1 (.int .i64 Rz)).setCell (p := ⟨g, 1, none⟩) hg1 (.int .i64 Cz)
    obtain ⟨W2, hWW2⟩ : ∃ W, (w3.setCell ⟨g, 0, none⟩ (.int .i64 Rz)).setCell ⟨g, 1, none⟩ (.int .i64 Cz) = W := ⟨_, rfl⟩
    rw [hWW2] at HSL4 HZ5 hE5
    obtain ⟨e0, e1, e2, e3, ef, hes⟩ := HSL4.out
    cases ok
    · obtain ⟨r0, r1, r2, r3, rf, hRR⟩ := HZ5.out
      go_wp2_with (rw [hWW2]; clear hWW2)
      have hV : readP s = .tuple #[playV 0 0 false ⟨#[]⟩, .bool false] := readP_no (fun r c d t h1 h2 => by
        have := (HG.out r c d t h1 h2).2.2.2
        cases this
        )
      refine bodyPost_ret (v := .tuple #[playV 0 0 false ⟨#[]⟩, .bool false]) (by simp [results, Tryd.results38, go_sem, r0, r1, r2, r3, rf]) rfl ⟨by rw [hV], (((hE5.setCell (by simp) _).setCell (by simp) _).setCell (by simp) _).setCell (by simp) _⟩
    cases hok : playOk Rz Cz Wd
    · rw [hok] at HPL
      have HOK := hid hok
      clear hok
      go_wp2_with (rw [hWW2]; clear hWW2)
      refine (HPL.out _).mono ?_
      rintro e w5 ⟨rfl, hx⟩
      have hE6 := hE5.trans hx
      obtain ⟨r0, r1, r2, r3, rf, hRR⟩ := HZ5.out.ext hx
      clear hx e0 e1 e2 e3 ef hes d0 d1 d2 d3 df hds
      go_wp2_with fail
      have hV : readP s = .tuple #[playV 0 0 false ⟨#[]⟩, .bool false] := readP_no (fun r c d t h1 h2 => by
        obtain ⟨y1, y2, y3, -⟩ := HG.out r c d t h1 h2
        rw [← y1, ← y2, ← y3, HOK.out] at h1
        cases h1
        )
      refine bodyPost_ret (v := .tuple #[playV 0 0 false ⟨#[]⟩, .bool false]) (by simp [results, Tryd.results38, go_sem, r0, r1, r2, r3, rf]) rfl ⟨by rw [hV], (((hE6.setCell (by simp) _).setCell (by simp) _).setCell (by simp) _).setCell (by simp) _⟩
    · rw [hok] at HPL
      have hV : readP s = .tuple #[playV Rz Cz false Wd, .bool true] := by
        obtain ⟨a1, a2, a3, a4, -⟩ := playOk_in hok
        have hn := HNR.out
        have hzz : z = Rz + 1 := by
          have h5 := HRZ.out
          by_cases hm : z = -9223372036854775808
          · subst hm
            exfalso
            have h6 : IntKind.i64.wrap (-9223372036854775808 - 1) = 9223372036854775807 := by decide
            omega
          · rw [IntWalk.i64_in _ (by have := hn.1; have := hn.2.1; omega)] at h5
            omega
        refine readP_yes hok ?_
        rw [← HR.out Rz Cz hok (by rw [HN1.out, hn.2.2.1 rfl (by omega) (by omega), hzz]) (by rw [HL1.out]; have := HCZ.out; omega), HD.out]
      clear hok
      go_wp2_with (rw [hWW2]; clear hWW2)
      refine (HPL.out _).mono ?_
      rintro e w5 ⟨rfl, hx⟩
      have hE6 := hE5.trans hx
      obtain ⟨r0, r1, r2, r3, rf, hRR⟩ := HZ5.out.ext hx
      obtain ⟨q0, q1, q2, q3, qf, hqs⟩ := HSL4.out.ext hx
      clear hx e0 e1 e2 e3 ef hes d0 d1 d2 d3 df hds
      go_wp2_with fail
      refine bodyPost_ret (v := .tuple #[playV Rz Cz false Wd, .bool true]) (by simp [results, Tryd.results38, go_sem, r0, r1, r2, r3, rf]) rfl ⟨by rw [hV], (((hE6.setCell (by simp) _).setCell (by simp) _).setCell (by simp) _).setCell (by simp) _⟩
set_option maxHeartbeats 1000000 in
theorem sReadPlay_any (s : ByteArray) (w : World) (hs : s.size ≤ 1048576) : Calls Tryd.prog 18 #[.string s] w (Ret (readP s) w) := by
  obtain ⟨r, c, d, t, b, hV⟩ := readP_cases s
  have HS := hid (fun w' => l12Read_any s w' hs)
  rw [hV] at HS ⊢
  clear hV
  go_enter Tryd.func18, Tryd.ntmps18
  go_wp2_with fail
  refine (HS.out _).mono ?_
  rintro e w1 ⟨rfl, hx⟩
  have hE := ((Ext.refl w).alloc (.cells #[.int .i64 0, .int .i64 0, .bool false, .string ⟨#[]⟩] 37)).trans hx
  obtain ⟨r0, r1, r2, r3, rf, hR⟩ := (PSlot.new w 0 0 false ⟨#[]⟩).ext hx
  clear hx
  go_wp2_with fail
  refine bodyPost_ret (v := .tuple #[playV r c d t, .bool b]) (by simp [results, Tryd.results18, go_sem, r0, r1, r2, r3, rf]) rfl ⟨rfl, (((hE.setCell (by simp) _).setCell (by simp) _).setCell (by simp) _).setCell (by simp) _⟩
end Go.Proofs.YtdecakimhjieeaaDoor
