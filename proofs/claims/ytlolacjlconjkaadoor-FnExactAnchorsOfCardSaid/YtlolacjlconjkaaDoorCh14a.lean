/- Anchors, by both. Conditions stand at each. -/
import Derived.Test.YtlolacjlconjkaaDoorCh11r
import Derived.Test.YtlolacjlconjkaaDoorCh12b
import Derived.Test.YtlolacjlconjkaaDoorSetL
namespace Go.Proofs.YtlolacjlconjkaaDoor
set_option linter.unusedVariables false
set_option linter.unusedSimpArgs false
open Go Go.RowKit
set_option maxHeartbeats 400000 in
theorem letter14_any (n : Int) (p c : ByteArray) (i j : Int) (w : World) (h1 : 5 ≤ n) (h2 : n ≤ 15) (hc : (c.size : Int) = n * n) :
    Calls Tryd.prog 38 #[boardV n p c, .int .i64 i, .int .i64 j] w (Ret (.bool (letB (sqAt n c i j))) w) := by
  have HC := hid (fun w => cell_any n p c i j w h1 h2 hc)
  clear hc
  obtain ⟨x, hx⟩ : ∃ x, sqAt n c i j = x := ⟨_, rfl⟩
  rw [hx] at HC ⊢
  clear hx
  have HL : Hid (letB x = (decide (x ≠ 0) && decide (x ≠ 46))) := hid rfl
  by_cases a0 : x = 0
  · subst a0
    go_enter Tryd.func38, Tryd.ntmps38
    go_wp2_with fail
    refine (HC.out _).mono ?_
    rintro e w1 ⟨rfl, hx⟩
    go_wp2_with fail
    go_returns
    exact ⟨rfl, ((Ext.refl w).alloc _).trans hx⟩
  · by_cases a1 : x = 46
    · subst a1
      go_enter Tryd.func38, Tryd.ntmps38
      go_wp2_with fail
      refine (HC.out _).mono ?_
      rintro e w1 ⟨rfl, hx⟩
      go_wp2_with fail
      go_returns
      exact ⟨rfl, ((Ext.refl w).alloc _).trans hx⟩
    · have q0 : (x != 0) = true := by simpa using a0
      have q1 : (x != 46) = true := by simpa using a1
      have A := hid (And.intro a0 a1)
      clear a0 a1
      go_enter Tryd.func38, Tryd.ntmps38
      go_wp2_with fail
      refine (HC.out _).mono ?_
      rintro e w1 ⟨rfl, hx⟩
      go_wp2_with fail
      go_returns
      exact ⟨ret_bool (by rw [HL.out]; simp [A.out.1, A.out.2]), ((Ext.refl w).alloc _).trans hx⟩
theorem sq_le225' {n : Int} (h1 : 5 ≤ n) (h2 : n ≤ 15) : 0 ≤ n * n ∧ n * n ≤ 225 := by
  have : n * n ≤ 15 * 15 := Int.mul_le_mul h2 h2 (by omega) (by omega)
  exact ⟨Int.mul_nonneg (by omega) (by omega), by omega⟩
def fullQ (n : Int) (c : ByteArray) (i j : Int) : Bool := inRC n i j && decide (sqAt n c i j ≠ 46)
set_option maxHeartbeats 400000 in
theorem full14_any (b o : Nat) (n : Int) (p c : ByteArray) (i j : Int) (w : World) (hB : BdAt w b o n p c) (h1 : 5 ≤ n) (h2 : n ≤ 15) (hc : (c.size : Int) = n * n) :
    Calls Tryd.prog 57 #[.pointer (some ⟨b, o, none⟩), .int .i64 i, .int .i64 j] w fun e w' => e = .returned (.bool (fullQ n c i j)) ∧ Dr w w' := by
  have HB := hid hB
  have HC := hid hc
  have HF : Hid (fullQ n c i j = (inRC n i j && decide (sqAt n c i j ≠ 46))) := hid rfl
  clear hB hc
  go_enter Tryd.func57, Tryd.ntmps57
  go_wp2_with fail
  refine (l11In_any b o n p c i j _ HB.out h1 h2).mono ?_
  rintro e w1 ⟨rfl, rfl⟩
  cases hr : inRC n i j
  · have HR := hid hr
    clear hr
    go_wp2_with fail
    go_returns
    exact ⟨ret_bool (by rw [HF.out, HR.out]; rfl), Dr.refl _⟩
  · have HR := hid hr
    clear hr
    go_wp2_with fail
    refine (l11At_any b o n p c i j _ HB.out h1 h2 HC.out HR.out).mono ?_
    rintro e w1 ⟨rfl, hD⟩
    obtain ⟨x, hx⟩ : ∃ x, sqAt n c i j = x := ⟨_, rfl⟩
    rw [hx]
    go_wp2_with fail
    go_returns
    exact ⟨ret_bool (by rw [HF.out, HR.out]; simp [hx]; rfl), hD⟩
theorem let_full {n : Int} {p c : ByteArray} (h : okB n p c = true) (i j : Int) : letB (sqAt n c i j) = fullQ n c i j := by
  unfold fullQ letB
  by_cases hi : inRC n i j = true
  · have hb := cellB_sqAt h hi
    rw [hi]
    have h0 : sqAt n c i j ≠ 0 := by
      intro e
      rw [e] at hb
      simp [cellB, smallB, capB] at hb
    simp [h0]
  · have hi' : inRC n i j = false := by simpa using hi
    have : sqAt n c i j = 0 := by unfold sqAt; rw [if_neg hi]
    rw [this, hi']
    simp
def besB (n : Int) (c : ByteArray) (i j : Int) : Bool := fullQ n c (i - 1) j || (fullQ n c (i + 1) j || (fullQ n c i (j - 1) || fullQ n c i (j + 1)))
def midB (n i j : Int) : Bool := decide (i = n / 2) && decide (j = n / 2)
def freeQ (n : Int) (c : ByteArray) (i j : Int) : Bool := inRC n i j && decide (sqAt n c i j = 46)
/-- Is a square an anchor? -/
def ancB (n : Int) (c : ByteArray) (i j : Int) : Bool := freeQ n c i j && (if blankS c then midB n i j else besB n c i j)
theorem blank_sq {n : Int} {p c : ByteArray} (h : okB n p c = true) (hb : blankS c = true) (i j : Int) (hi : inRC n i j = true) : sqAt n c i j = 46 := by
  obtain ⟨h1, h2, h3, h4⟩ := okB_true h
  obtain ⟨_, _, e3, e4, e5⟩ := sq_index h1 h2 h4 hi
  rw [blankS_eq] at hb
  have hf : c.data.toList.filter (· != 46) = [] := by simpa using hb
  rw [sqAt_bAt hi]
  have hm : bAt c (i * n + j).toNat ∈ c.data.toList := by
    unfold bAt
    rw [List.getD_eq_getElem?_getD, List.getElem?_eq_getElem (by simpa using e5)]
    exact List.getElem_mem _
  have h46 : bAt c (i * n + j).toNat = 46 := by
    have := List.filter_eq_nil_iff.1 hf _ hm
    simpa using this
  rw [h46]; rfl
theorem anc_blank {n : Int} {p c : ByteArray} (h : okB n p c = true) (hb : blankS c = true) (i j : Int) : ancB n c i j = midB n i j := by
  obtain ⟨h1, h2, h3, h4⟩ := okB_true h
  unfold ancB
  rw [if_pos hb]
  cases hm : midB n i j
  · simp
  · have hin : inRC n i j = true := by
      unfold midB at hm
      simp at hm
      simp [inRC, inB]
      omega
    simp [freeQ, hin, blank_sq h hb i j hin]
theorem l14Free_any (b o : Nat) (n : Int) (p c : ByteArray) (i j : Int) (w : World) (hB : BdAt w b o n p c) (h1 : 5 ≤ n) (h2 : n ≤ 15) (hc : (c.size : Int) = n * n) :
    Calls Tryd.prog 33 #[.pointer (some ⟨b, o, none⟩), .int .i64 i, .int .i64 j] w fun e w' => e = .returned (.bool (freeQ n c i j)) ∧ Dr w w' := by
  have HB := hid hB
  have HC := hid hc
  have HF : Hid (freeQ n c i j = (inRC n i j && decide (sqAt n c i j = 46))) := hid rfl
  clear hB hc
  go_enter Tryd.func33, Tryd.ntmps33
  go_wp2_with fail
  refine (l11In_any b o n p c i j _ HB.out h1 h2).mono ?_
  rintro e w1 ⟨rfl, rfl⟩
  cases hr : inRC n i j
  · have HR := hid hr
    clear hr
    go_wp2_with fail
    go_returns
    exact ⟨ret_bool (by rw [HF.out, HR.out]; rfl), Dr.refl _⟩
  · have HR := hid hr
    clear hr
    go_wp2_with fail
    refine (l11At_any b o n p c i j _ HB.out h1 h2 HC.out HR.out).mono ?_
    rintro e w1 ⟨rfl, hD⟩
    obtain ⟨x, hx⟩ : ∃ x, sqAt n c i j = x := ⟨_, rfl⟩
    rw [hx]
    go_wp2_with fail
    go_returns
    exact ⟨ret_bool (by rw [HF.out, HR.out]; simp [hx]; rfl), hD⟩
set_option maxHeartbeats 1000000 in
theorem l14Beside_any (b o : Nat) (n : Int) (p c : ByteArray) (i j : Int) (w : World) (hB : BdAt w b o n p c) (h1 : 5 ≤ n) (h2 : n ≤ 15) (hc : (c.size : Int) = n * n) (hin : inRC n i j = true) :
    Calls Tryd.prog 53 #[.pointer (some ⟨b, o, none⟩), .int .i64 i, .int .i64 j] w (Ret (.bool (besB n c i j)) w) := by
  obtain ⟨i0, i1, j0, j1⟩ := inRC_true hin
  have HV : Hid (besB n c i j = (fullQ n c (i - 1) j || (fullQ n c (i + 1) j || (fullQ n c i (j - 1) || fullQ n c i (j + 1))))) := hid rfl
  have H0 := hid (fun w' (h : Ext w w') => full14_any b o n p c (i - 1) (j) w' (hB.ext h) h1 h2 hc)
  obtain ⟨f0, hf0⟩ : ∃ f, fullQ n c (i - 1) (j) = f := ⟨_, rfl⟩
  rw [hf0] at H0 HV
  have H1 := hid (fun w' (h : Ext w w') => full14_any b o n p c (i + 1) (j) w' (hB.ext h) h1 h2 hc)
  obtain ⟨f1, hf1⟩ : ∃ f, fullQ n c (i + 1) (j) = f := ⟨_, rfl⟩
  rw [hf1] at H1 HV
  have H2 := hid (fun w' (h : Ext w w') => full14_any b o n p c (i) (j - 1) w' (hB.ext h) h1 h2 hc)
  obtain ⟨f2, hf2⟩ : ∃ f, fullQ n c (i) (j - 1) = f := ⟨_, rfl⟩
  rw [hf2] at H2 HV
  have H3 := hid (fun w' (h : Ext w w') => full14_any b o n p c (i) (j + 1) w' (hB.ext h) h1 h2 hc)
  obtain ⟨f3, hf3⟩ : ∃ f, fullQ n c (i) (j + 1) = f := ⟨_, rfl⟩
  rw [hf3] at H3 HV
  clear hf0 hf1 hf2 hf3 hB hc hin
  have hE := Ext.refl w
  go_enter Tryd.func53, Tryd.ntmps53
  go_wp2_with fail
  refine (H0.out _ hE).mono ?_
  rintro e w1 ⟨rfl, hx⟩
  replace hE := hE.trans (Dr.ext hx)
  clear hx
  cases f0
  · go_wp2_with fail
    refine (H1.out _ hE).mono ?_
    rintro e w2 ⟨rfl, hx⟩
    replace hE := hE.trans (Dr.ext hx)
    clear hx
    cases f1
    · go_wp2_with fail
      refine (H2.out _ hE).mono ?_
      rintro e w3 ⟨rfl, hx⟩
      replace hE := hE.trans (Dr.ext hx)
      clear hx
      cases f2
      · go_wp2_with fail
        refine (H3.out _ hE).mono ?_
        rintro e w4 ⟨rfl, hx⟩
        replace hE := hE.trans (Dr.ext hx)
        clear hx
        go_wp2_with fail
        go_returns
        exact ⟨by rw [HV.out]; rfl, hE⟩
      · go_wp2_with fail
        go_returns
        exact ⟨by rw [HV.out]; rfl, hE⟩
    · go_wp2_with fail
      go_returns
      exact ⟨by rw [HV.out]; rfl, hE⟩
  · go_wp2_with fail
    go_returns
    exact ⟨by rw [HV.out]; rfl, hE⟩
set_option maxHeartbeats 1000000 in
theorem l14Anchor_any (b o : Nat) (n : Int) (p c : ByteArray) (i j : Int) (w : World) (hB : BdAt w b o n p c) (hok : okB n p c = true) :
    Calls Tryd.prog 30 #[.pointer (some ⟨b, o, none⟩), .int .i64 i, .int .i64 j] w (Ret (.bool (ancB n c i j)) w) := by
  obtain ⟨h1, h2, h3, h4⟩ := okB_true hok
  have hcs : c.size ≤ 1048576 := by have := sq_le225' h1 h2; omega
  have HL := hid (l11Letters_any b o n p c w hB hcs)
  have HB := hid (fun w' (h : Ext w w') => hB.ext h)
  have HF := hid (fun w' (h : Ext w w') => l14Free_any b o n p c i j w' (hB.ext h) h1 h2 h4)
  have HBS := hid (fun w' (h : Ext w w') (hr : freeQ n c i j = true) => l14Beside_any b o n p c i j w' (hB.ext h) h1 h2 h4 (by unfold freeQ at hr; simp at hr; exact hr.1))
  have HBL : Hid (blankS c = (noDot c).toList.isEmpty) := hid rfl
  have HAB := hid (fun (hb : blankS c = true) => anc_blank hok hb i j)
  have HAV : Hid (ancB n c i j = (freeQ n c i j && (if blankS c then midB n i j else besB n c i j))) := hid rfl
  obtain ⟨X, hX⟩ : ∃ X, noDot c = X := ⟨_, rfl⟩
  rw [hX] at HL HBL
  clear hX h3 h4 hcs hB hok
  cases hb : blankS c
  · have hX2 : X.toList.isEmpty = false := by rw [← HBL.out]; exact hb
    have HB0 := hid hb
    clear hb
    cases hf : freeQ n c i j
    · have HF0 := hid hf
      rw [hf] at HF
      clear hf
      go_enter Tryd.func30, Tryd.ntmps30
      go_wp2_with fail
      refine HL.out.mono ?_
      rintro e w1 ⟨rfl, hE⟩
      go_wp2_with fail
      refine (HF.out _ hE).mono ?_
      rintro e w2 ⟨rfl, hx⟩
      replace hE := hE.trans (Dr.ext hx)
      clear hx
      go_wp2_with fail
      go_returns
      exact ⟨by rw [HAV.out, HF0.out]; rfl, hE⟩
    · have HF0 := hid hf
      have HBS1 := hid (fun w' h => HBS.out w' h hf)
      rw [hf] at HF
      clear hf
      go_enter Tryd.func30, Tryd.ntmps30
      go_wp2_with fail
      refine HL.out.mono ?_
      rintro e w1 ⟨rfl, hE⟩
      go_wp2_with fail
      refine (HF.out _ hE).mono ?_
      rintro e w2 ⟨rfl, hx⟩
      replace hE := hE.trans (Dr.ext hx)
      clear hx
      go_wp2_with fail
      refine (HBS1.out _ hE).mono ?_
      rintro e w3 ⟨rfl, hx⟩
      replace hE := hE.trans hx
      clear hx
      go_wp2_with fail
      go_returns
      exact ⟨by rw [HAV.out, HF0.out, HB0.out]; rfl, hE⟩
  · have hX2 : X.toList.isEmpty = true := by rw [← HBL.out]; exact hb
    have HA := hid (HAB.out hb)
    have q1 : IntKind.i64.wrap (n.tdiv 2) = n / 2 := by rw [Int.tdiv_eq_ediv_of_nonneg (by omega)]; exact IntWalk.i64_in _ (by omega)
    have HM : Hid (midB n i j = (decide (i = n / 2) && decide (j = n / 2))) := hid rfl
    clear hb HF HBS HAB HAV
    by_cases hi : i = n / 2
    · have e1 : (i == n / 2) = true := by simpa using hi
      by_cases hj : j = n / 2
      · have e2 : (j == n / 2) = true := by simpa using hj
        have HM2 : Hid (midB n i j = true) := hid (by rw [HM.out]; simp [hi, hj])
        clear hi hj HM
        go_enter Tryd.func30, Tryd.ntmps30
        go_wp2_with fail
        refine HL.out.mono ?_
        rintro e w1 ⟨rfl, hE⟩
        obtain ⟨d0, d1, d2⟩ := HB.out _ hE
        go_wp2_with fail
        go_returns
        exact ⟨by rw [HA.out, HM2.out]; rfl, hE⟩
      · have e2 : (j == n / 2) = false := by simpa using hj
        have HM2 : Hid (midB n i j = false) := hid (by rw [HM.out]; simp [hj])
        clear hi hj HM
        go_enter Tryd.func30, Tryd.ntmps30
        go_wp2_with fail
        refine HL.out.mono ?_
        rintro e w1 ⟨rfl, hE⟩
        obtain ⟨d0, d1, d2⟩ := HB.out _ hE
        go_wp2_with fail
        go_returns
        exact ⟨by rw [HA.out, HM2.out]; rfl, hE⟩
    · have e1 : (i == n / 2) = false := by simpa using hi
      have HM2 : Hid (midB n i j = false) := hid (by rw [HM.out]; simp [hi])
      clear hi HM
      go_enter Tryd.func30, Tryd.ntmps30
      go_wp2_with fail
      refine HL.out.mono ?_
      rintro e w1 ⟨rfl, hE⟩
      obtain ⟨d0, d1, d2⟩ := HB.out _ hE
      go_wp2_with fail
      go_returns
      exact ⟨by rw [HA.out, HM2.out]; rfl, hE⟩
set_option maxHeartbeats 2000000 in
theorem anchor_any (n : Int) (p c : ByteArray) (i j : Int) (w : World) (hok : okB n p c = true) (hM : MaxAt w) :
    Calls Tryd.prog 31 #[boardV n p c, .int .i64 i, .int .i64 j] w (Ret (.bool (ancB n c i j)) w) := by
  obtain ⟨h1, h2, h3, h4⟩ := okB_true hok
  have hcs : c.size ≤ 1048576 := by have := sq_le225' h1 h2; omega
  have HM := hid (fun w' (h : Ext w w') => hM.ext h)
  have HC := hid (fun w' => cell_any n p c i j w' h1 h2 h4)
  have HAB := hid (fun (hb : blankS c = true) => anc_blank hok hb i j)
  have HBK := hid (fun w' (h : MaxAt w') => blank_any n p c w' hcs h)
  have HAV : Hid (ancB n c i j = (freeQ n c i j && (if blankS c then midB n i j else besB n c i j))) := hid rfl
  have HBV : Hid (besB n c i j = (fullQ n c (i - 1) j || (fullQ n c (i + 1) j || (fullQ n c i (j - 1) || fullQ n c i (j + 1))))) := hid rfl
  have H0 := hid (fun w' => letter14_any n p c (i - 1) (j) w' h1 h2 h4)
  rw [let_full hok (i - 1) (j)] at H0
  obtain ⟨f0, hf0⟩ : ∃ f, fullQ n c (i - 1) (j) = f := ⟨_, rfl⟩
  rw [hf0] at H0 HBV
  have H1 := hid (fun w' => letter14_any n p c (i + 1) (j) w' h1 h2 h4)
  rw [let_full hok (i + 1) (j)] at H1
  obtain ⟨f1, hf1⟩ : ∃ f, fullQ n c (i + 1) (j) = f := ⟨_, rfl⟩
  rw [hf1] at H1 HBV
  have H2 := hid (fun w' => letter14_any n p c (i) (j - 1) w' h1 h2 h4)
  rw [let_full hok (i) (j - 1)] at H2
  obtain ⟨f2, hf2⟩ : ∃ f, fullQ n c (i) (j - 1) = f := ⟨_, rfl⟩
  rw [hf2] at H2 HBV
  have H3 := hid (fun w' => letter14_any n p c (i) (j + 1) w' h1 h2 h4)
  rw [let_full hok (i) (j + 1)] at H3
  obtain ⟨f3, hf3⟩ : ∃ f, fullQ n c (i) (j + 1) = f := ⟨_, rfl⟩
  rw [hf3] at H3 HBV
  clear hf0 hf1 hf2 hf3
  by_cases h46 : sqAt n c i j = 46
  · have hin : inRC n i j = true := by
      by_cases hi : inRC n i j = true
      · exact hi
      · unfold sqAt at h46
        rw [if_neg hi] at h46
        simp at h46
    obtain ⟨i0, i1, j0, j1⟩ := inRC_true hin
    have HFR : Hid (freeQ n c i j = true) := hid (by simp [freeQ, hin, h46])
    rw [h46] at HC
    clear h46 hin h3 h4 hM hok
    cases hb : blankS c
    · rw [hb] at HBK
      have HB0 := hid hb
      clear hb HAB
      have HA : Hid (ancB n c i j = (f0 || (f1 || (f2 || f3)))) := hid (by rw [HAV.out, HFR.out, HB0.out]; simpa using HBV.out)
      go_enter Tryd.func31, Tryd.ntmps31
      go_wp2_with fail
      refine (HC.out _).mono ?_
      rintro e w1 ⟨rfl, hx⟩
      have hE := ((Ext.refl w).alloc _).trans hx
      have b0 := hx.cell (b := w.heap.size) (o := 0) (v := .int .i64 n) (by simp)
      have b1 := hx.cell (b := w.heap.size) (o := 1) (v := .string p) (by simp)
      have b2 := hx.cell (b := w.heap.size) (o := 2) (v := .string c) (by simp)
      clear hx
      go_wp2_with fail
      refine (HBK.out _ (HM.out _ hE)).mono ?_
      rintro e w2 ⟨rfl, hx⟩
      replace b0 := hx.cell b0
      replace b1 := hx.cell b1
      replace b2 := hx.cell b2
      replace hE := hE.trans hx
      clear hx
      go_wp2_with fail
      refine (H0.out _).mono ?_
      rintro e w3 ⟨rfl, hx⟩
      replace b0 := hx.cell b0
      replace b1 := hx.cell b1
      replace b2 := hx.cell b2
      replace hE := hE.trans hx
      clear hx
      cases f0
      · go_wp2_with fail
        refine (H1.out _).mono ?_
        rintro e w4 ⟨rfl, hx⟩
        replace b0 := hx.cell b0
        replace b1 := hx.cell b1
        replace b2 := hx.cell b2
        replace hE := hE.trans hx
        clear hx
        cases f1
        · go_wp2_with fail
          refine (H2.out _).mono ?_
          rintro e w5 ⟨rfl, hx⟩
          replace b0 := hx.cell b0
          replace b1 := hx.cell b1
          replace b2 := hx.cell b2
          replace hE := hE.trans hx
          clear hx
          cases f2
          · go_wp2_with fail
            refine (H3.out _).mono ?_
            rintro e w6 ⟨rfl, hx⟩
            replace b0 := hx.cell b0
            replace b1 := hx.cell b1
            replace b2 := hx.cell b2
            replace hE := hE.trans hx
            clear hx
            go_wp2_with fail
            go_returns
            exact ⟨by rw [HA.out]; rfl, hE⟩
          · go_wp2_with fail
            go_returns
            exact ⟨by rw [HA.out]; rfl, hE⟩
        · go_wp2_with fail
          go_returns
          exact ⟨by rw [HA.out]; rfl, hE⟩
      · go_wp2_with fail
        go_returns
        exact ⟨by rw [HA.out]; rfl, hE⟩
    · rw [hb] at HBK
      have HA := hid (HAB.out hb)
      have q1 : IntKind.i64.wrap (n.tdiv 2) = n / 2 := by rw [Int.tdiv_eq_ediv_of_nonneg (by omega)]; exact IntWalk.i64_in _ (by omega)
      have HMD : Hid (midB n i j = (decide (i = n / 2) && decide (j = n / 2))) := hid rfl
      clear hb HAB HAV HBV H0 H1 H2 H3
      have HW : Hid (∀ w1, Ext (w.alloc (.cells #[.int .i64 n, .string p, .string c] 26)) w1 → Ext w w1 ∧ w1.cell? ⟨w.heap.size, 0, none⟩ = some (.int .i64 n) ∧ w1.cell? ⟨w.heap.size, 1, none⟩ = some (.string p) ∧ w1.cell? ⟨w.heap.size, 2, none⟩ = some (.string c)) := hid (fun w1 hx => ⟨((Ext.refl w).alloc _).trans hx, hx.cell (by simp), hx.cell (by simp), hx.cell (by simp)⟩)
      by_cases hi : i = n / 2
      · have e1 : (i == n / 2) = true := by simpa using hi
        by_cases hj : j = n / 2
        · have e2 : (j == n / 2) = true := by simpa using hj
          have HM2 : Hid (midB n i j = true) := hid (by rw [HMD.out]; simp [hi, hj])
          clear hi hj HMD
          go_enter Tryd.func31, Tryd.ntmps31
          go_wp2_with fail
          refine (HC.out _).mono ?_
          rintro e w1 ⟨rfl, hx⟩
          obtain ⟨hE, b0, b1, b2⟩ := HW.out _ hx
          clear hx
          go_wp2_with fail
          refine (HBK.out _ (HM.out _ hE)).mono ?_
          rintro e w2 ⟨rfl, hx⟩
          replace b0 := hx.cell b0
          replace b1 := hx.cell b1
          replace b2 := hx.cell b2
          replace hE := hE.trans hx
          clear hx
          go_wp2_with fail
          go_returns
          exact ⟨by rw [HA.out, HM2.out]; rfl, hE⟩
        · have e2 : (j == n / 2) = false := by simpa using hj
          have HM2 : Hid (midB n i j = false) := hid (by rw [HMD.out]; simp [hj])
          clear hi hj HMD
          go_enter Tryd.func31, Tryd.ntmps31
          go_wp2_with fail
          refine (HC.out _).mono ?_
          rintro e w1 ⟨rfl, hx⟩
          obtain ⟨hE, b0, b1, b2⟩ := HW.out _ hx
          clear hx
          go_wp2_with fail
          refine (HBK.out _ (HM.out _ hE)).mono ?_
          rintro e w2 ⟨rfl, hx⟩
          replace b0 := hx.cell b0
          replace b1 := hx.cell b1
          replace b2 := hx.cell b2
          replace hE := hE.trans hx
          clear hx
          go_wp2_with fail
          go_returns
          exact ⟨by rw [HA.out, HM2.out]; rfl, hE⟩
      · have e1 : (i == n / 2) = false := by simpa using hi
        have HM2 : Hid (midB n i j = false) := hid (by rw [HMD.out]; simp [hi])
        clear hi HMD
        go_enter Tryd.func31, Tryd.ntmps31
        go_wp2_with fail
        refine (HC.out _).mono ?_
        rintro e w1 ⟨rfl, hx⟩
        obtain ⟨hE, b0, b1, b2⟩ := HW.out _ hx
        clear hx
        go_wp2_with fail
        refine (HBK.out _ (HM.out _ hE)).mono ?_
        rintro e w2 ⟨rfl, hx⟩
        replace b0 := hx.cell b0
        replace b1 := hx.cell b1
        replace b2 := hx.cell b2
        replace hE := hE.trans hx
        clear hx
        go_wp2_with fail
        go_returns
        exact ⟨by rw [HA.out, HM2.out]; rfl, hE⟩
  · have HFR : Hid (freeQ n c i j = false) := hid (by simp [freeQ, h46])
    obtain ⟨x, hx⟩ : ∃ x, sqAt n c i j = x := ⟨_, rfl⟩
    rw [hx] at HC h46
    have h47 : (x != 46) = true := by simpa using h46
    clear hx h46 h3 h4 hM hok
    go_enter Tryd.func31, Tryd.ntmps31
    go_wp2_with fail
    refine (HC.out _).mono ?_
    rintro e w1 ⟨rfl, hx⟩
    go_wp2_with fail
    go_returns
    exact ⟨by rw [HAV.out, HFR.out]; rfl, ((Ext.refl w).alloc _).trans hx⟩
end Go.Proofs.YtlolacjlconjkaaDoor
