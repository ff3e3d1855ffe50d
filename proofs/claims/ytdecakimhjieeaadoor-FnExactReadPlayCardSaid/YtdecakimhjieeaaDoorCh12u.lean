/- ReadPlay, by the program. Conditions: at most 2^20 bytes; the library's variables. -/
import Derived.Test.YtdecakimhjieeaaDoorCh12t
import Derived.Test.YtdecakimhjieeaaDoorCh11x
namespace Go.Proofs.YtdecakimhjieeaaDoor
set_option linter.unusedVariables false
set_option linter.unusedSimpArgs false
open Go Go.RowKit
theorem valD_inj {m m' : Nat} (h : m < 100) (h' : m' < 100) (e : decS m = decS m') : m = m' := by
  have h1 := (dec_facts m h).1
  have h2 := (dec_facts m' h').1
  rw [e, h2] at h1
  exact h1.symm
theorem place_of {r c : Int} {d : Bool} {t s : ByteArray} (h : playOk r c t = true) (e : playT r c d t = s) : Lib.cut s.data.toList [32] = ((plcS r c d).data.toList, t.data.toList, true) ∧ splitC 32 s = [plcS r c d, t] ∧ s.size ≠ 0 := by
  obtain ⟨h1, h2, h3, h4, h5⟩ := playOk_in h
  have hl := playT_list (d := d) h
  rw [e] at hl
  have hno := plcS_no d h1 h2 h3 h4
  refine ⟨by rw [hl]; exact cut_at 32 _ _ hno, ?_, ?_⟩
  · rw [← ofL_of s, hl, splitC_line 32 _ _ hno, ofL_of, ofL_of, splitC_none 32 t h5]
  · have := congrArg List.length hl
    rw [list_len, List.length_append] at this
    simp at this
    omega
theorem playT_inj {r c r' c' : Int} {d d' : Bool} {t t' : ByteArray} (h : playOk r c t = true) (h' : playOk r' c' t' = true) (e : playT r c d t = playT r' c' d' t') : r = r' ∧ c = c' ∧ d = d' ∧ t = t' := by
  have e1 := (place_of (d := d) h rfl).2.1
  have e2 := (place_of (d := d') h' e.symm).2.1
  rw [e1] at e2
  injection e2 with e3 e4
  injection e4 with e4 _
  obtain ⟨a1, a2, a3, a4, -⟩ := playOk_in h
  obtain ⟨b1, b2, b3, b4, -⟩ := playOk_in h'
  obtain ⟨-, p2, p3, p4⟩ := plcS_parts d a1 a2 a3 a4
  obtain ⟨-, q2, q3, q4⟩ := plcS_parts d' b1 b2 b3 b4
  rw [e3] at p2 p3 p4
  have h1 := valD_inj (by omega) (by omega) (p3.symm.trans q3)
  have h2 := p4.symm.trans q4
  exact ⟨by omega, by omega, p2.symm.trans q2, e4⟩
open Classical in
/-- What the reading of a play returns. -/
noncomputable def readP (s : ByteArray) : Value := if h : ∃ (r c : Int) (d : Bool) (t : ByteArray), playOk r c t = true ∧ playT r c d t = s then .tuple #[playV h.choose h.choose_spec.choose h.choose_spec.choose_spec.choose h.choose_spec.choose_spec.choose_spec.choose, .bool true] else .tuple #[playV 0 0 false ⟨#[]⟩, .bool false]
theorem readP_yes {r c : Int} {d : Bool} {t s : ByteArray} (h : playOk r c t = true) (e : playT r c d t = s) : readP s = .tuple #[playV r c d t, .bool true] := by
  have hx : ∃ (r c : Int) (d : Bool) (t : ByteArray), playOk r c t = true ∧ playT r c d t = s := ⟨r, c, d, t, h, e⟩
  unfold readP
  rw [dif_pos hx]
  have q := hx.choose_spec.choose_spec.choose_spec.choose_spec
  obtain ⟨e1, e2, e3, e4⟩ := playT_inj q.1 h (q.2.trans e.symm)
  have key : ∀ (a b : Int) (x : Bool) (y : ByteArray), a = r → b = c → x = d → y = t → (Value.tuple #[playV a b x y, .bool true]) = .tuple #[playV r c d t, .bool true] := by
    rintro a b x y rfl rfl rfl rfl
    rfl
  exact key _ _ _ _ e1 e2 e3 e4
theorem readP_no {s : ByteArray} (h : ∀ (r c : Int) (d : Bool) (t : ByteArray), playOk r c t = true → playT r c d t = s → False) : readP s = .tuple #[playV 0 0 false ⟨#[]⟩, .bool false] := by
  unfold readP
  rw [dif_neg]
  rintro ⟨r, c, d, t, h1, h2⟩
  exact h r c d t h1 h2
theorem readP_cases (s : ByteArray) : ∃ (r c : Int) (d : Bool) (t : ByteArray) (b : Bool), readP s = .tuple #[playV r c d t, .bool b] := by
  by_cases hx : ∃ (r c : Int) (d : Bool) (t : ByteArray), playOk r c t = true ∧ playT r c d t = s
  · obtain ⟨r, c, d, t, h1, h2⟩ := hx
    exact ⟨_, _, _, _, _, readP_yes h1 h2⟩
  · exact ⟨_, _, _, _, _, readP_no fun r c d t h1 h2 => hx ⟨r, c, d, t, h1, h2⟩⟩
/-- A play in a block that may be written. -/
def PSlot (w : World) (g : Nat) (r c : Int) (d : Bool) (t : ByteArray) : Prop := w.cell? ⟨g, 0, none⟩ = some (.int .i64 r) ∧ w.cell? ⟨g, 1, none⟩ = some (.int .i64 c) ∧ w.cell? ⟨g, 2, none⟩ = some (.bool d) ∧ w.cell? ⟨g, 3, none⟩ = some (.string t) ∧ (∀ j, w.frozen? ⟨g, j, none⟩ = false) ∧ g < w.heap.size
theorem PSlot.ext {w w' : World} {g : Nat} {r c : Int} {d : Bool} {t : ByteArray} (h : PSlot w g r c d t) (k : Ext w w') : PSlot w' g r c d t :=
  ⟨k.cell h.1, k.cell h.2.1, k.cell h.2.2.1, k.cell h.2.2.2.1, fun j => by rw [Below.frozen k (p := ⟨g, j, none⟩) h.2.2.2.2.2]; exact h.2.2.2.2.1 j, Nat.lt_of_lt_of_le h.2.2.2.2.2 k.size⟩
theorem PSlot.new (w : World) (r c : Int) (d : Bool) (t : ByteArray) : PSlot (w.alloc (.cells #[.int .i64 r, .int .i64 c, .bool d, .string t] 37)) w.heap.size r c d t := ⟨by simp, by simp, by simp, by simp, by simp, by simp⟩
theorem pcell_off {w : World} {b g o i : Nat} {u v : Value} (hne : b ≠ g) (h : w.cell? ⟨b, o, none⟩ = some v) : (w.setCell ⟨g, i, none⟩ u).cell? ⟨b, o, none⟩ = some v := by
  rw [World.cell?_setCell_other _ _ _ _ (by simp [hne])]
  exact h
theorem PSlot.off {w : World} {R g i : Nat} {u : Value} {r c : Int} {d : Bool} {t : ByteArray} (h : PSlot w R r c d t) (hne : R ≠ g) : PSlot (w.setCell ⟨g, i, none⟩ u) R r c d t :=
  ⟨pcell_off hne h.1, pcell_off hne h.2.1, pcell_off hne h.2.2.1, pcell_off hne h.2.2.2.1, fun j => by simpa using h.2.2.2.2.1 j, by simpa using h.2.2.2.2.2⟩
theorem PSlot.set0 {w : World} {g : Nat} {r c : Int} {d : Bool} {t : ByteArray} (h : PSlot w g r c d t) (r' : Int) : PSlot (w.setCell ⟨g, 0, none⟩ (.int .i64 r')) g r' c d t :=
  ⟨World.cell?_setCell_same _ _ _ h.1, by rw [World.cell?_setCell_other _ _ _ _ (by simp)]; exact h.2.1, by rw [World.cell?_setCell_other _ _ _ _ (by simp)]; exact h.2.2.1, by rw [World.cell?_setCell_other _ _ _ _ (by simp)]; exact h.2.2.2.1, fun j => by simpa using h.2.2.2.2.1 j, by simpa using h.2.2.2.2.2⟩
theorem PSlot.set1 {w : World} {g : Nat} {r c : Int} {d : Bool} {t : ByteArray} (h : PSlot w g r c d t) (c' : Int) : PSlot (w.setCell ⟨g, 1, none⟩ (.int .i64 c')) g r c' d t :=
  ⟨by rw [World.cell?_setCell_other _ _ _ _ (by simp)]; exact h.1, World.cell?_setCell_same _ _ _ h.2.1, by rw [World.cell?_setCell_other _ _ _ _ (by simp)]; exact h.2.2.1, by rw [World.cell?_setCell_other _ _ _ _ (by simp)]; exact h.2.2.2.1, fun j => by simpa using h.2.2.2.2.1 j, by simpa using h.2.2.2.2.2⟩
/-- What a parsed text says, if it is a play's. -/
def SaysP (s P Wd : ByteArray) : Prop := ∀ (r c : Int) (d : Bool) (t : ByteArray), playOk r c t = true → playT r c d t = s → s.size ≠ 0 ∧ 2 ≤ P.size ∧ plcD P = d ∧ plcN P = decS (r + 1).toNat ∧ (plcL P).toNat = 97 + c.toNat ∧ Wd = t ∧ 0 ≤ r ∧ r ≤ 14 ∧ 0 ≤ c ∧ c ≤ 14
theorem says_cut (s : ByteArray) : SaysP s (ofL (Lib.cut s.data.toList [32]).1) (ofL (Lib.cut s.data.toList [32]).2.1) := fun r c d t h e => by
  obtain ⟨h1, -, h3⟩ := place_of (d := d) h e
  obtain ⟨a1, a2, a3, a4, -⟩ := playOk_in h
  obtain ⟨p1, p2, p3, p4⟩ := plcS_parts d a1 a2 a3 a4
  rw [h1]
  exact ⟨h3, p1, p2, p3, p4, rfl, a1, a2, a3, a4⟩
theorem cut_size (l : List UInt8) : (Lib.cut l [32]).1.length ≤ l.length ∧ (Lib.cut l [32]).2.1.length ≤ l.length := by
  unfold Lib.cut
  split
  · simp only [List.length_take, List.length_drop]
    omega
  · simp
set_option maxRecDepth 100000 in
set_option maxHeartbeats 4000000 in
theorem ReadPlay_any (s : ByteArray) (w : World) (hs : s.size ≤ 1048576) (hN : NumF w) (hT : Tabs w) : Calls Tryd.prog 19 #[.string s] w (Ret (readP s) w) := by
  have HNF := hid (fun w' (k : Ext w w') => hN.ext k)
  have HTB := hid (fun w' (k : Ext w w') => hT.ext k)
  have HSY := hid (says_cut s)
  have hcs := cut_size s.data.toList
  rw [list_len] at hcs
  obtain ⟨P, hP⟩ : ∃ P, ofL (Lib.cut s.data.toList [32]).1 = P := ⟨_, rfl⟩
  obtain ⟨Wd, hWd⟩ : ∃ P, ofL (Lib.cut s.data.toList [32]).2.1 = P := ⟨_, rfl⟩
  obtain ⟨fnd, hf⟩ : ∃ b, (Lib.cut s.data.toList [32]).2.2 = b := ⟨_, rfl⟩
  have hPs : P.size ≤ 1048576 := by rw [← hP, ofL_size]; omega
  have hWs : Wd.size ≤ 1048576 := by rw [← hWd, ofL_size]; omega
  have HC : Hid (∀ w, MaxAt w → Calls Tryd.prog 39 #[.string s, .string ⟨#[32]⟩] w (Ret (.tuple #[.string P, .string Wd, .bool fnd]) w)) := hid (fun w ⟨m, hm⟩ => (Tryd.strings_Cut s ⟨#[32]⟩ m w (by omega) hm).mono (by
    rintro e w' ⟨rfl, n, rfl⟩
    exact ⟨by rw [← hP, ← hWd, ← hf]; rfl, (Ext.refl w).drewN n⟩))
  rw [hP, hWd] at HSY
  clear hP hWd hf hcs hN hT
  go_enter Tryd.func19, Tryd.ntmps19
  go_wp2_with fail
  refine (HC.out _ (HNF.out _ ((Ext.refl w).alloc _)).1).mono ?_
  rintro e w1 ⟨rfl, hx⟩
  have HZ := hid ((PSlot.new w 0 0 false ⟨#[]⟩).ext hx)
  have hE := ((Ext.refl w).alloc (.cells #[.int .i64 0, .int .i64 0, .bool false, .string ⟨#[]⟩] 37)).trans hx
  clear hx
  by_cases hP2 : P.size < 2
  · have hP2i : (P.size : Int) < 2 := by omega
    obtain ⟨r0, r1, r2, r3, rf, hR⟩ := HZ.out
    go_wp2_with fail
    have hV : readP s = .tuple #[playV 0 0 false ⟨#[]⟩, .bool false] := readP_no (fun r c d t h1 h2 => by
      have := (HSY.out r c d t h1 h2).2.1
      omega
      )
    refine bodyPost_ret (v := .tuple #[playV 0 0 false ⟨#[]⟩, .bool false]) (by simp [results, Tryd.results19, go_sem, r0, r1, r2, r3, rf]) rfl ⟨by rw [hV], (((hE.setCell (by simp) _).setCell (by simp) _).setCell (by simp) _).setCell (by simp) _⟩
  have hP2i : ¬ (P.size : Int) < 2 := by omega
  obtain ⟨k, hk⟩ : ∃ k, P.size = k + 1 := ⟨P.size - 1, by omega⟩
  have hk1 : 1 ≤ k := by omega
  have hlt0 : 0 < P.size := by omega
  have hltk : k < P.size := by omega
  obtain ⟨u0, hu0⟩ : ∃ u, P[0] = u := ⟨_, rfl⟩
  obtain ⟨u1, hu1⟩ : ∃ u, P[k] = u := ⟨_, rfl⟩
  have hb0 : bAt P 0 = u0 := by rw [← bAt_eq P 0 hlt0]; exact hu0
  have hb1 : bAt P k = u1 := by rw [← bAt_eq P k hltk]; exact hu1
  obtain ⟨D, hD⟩ : ∃ D, smallB (u0.toNat : Int) = D := ⟨_, rfl⟩
  have HD : Hid (plcD P = D) := hid (by unfold plcD; rw [hb0]; exact hD)
  have HSM := hid (fun w' => small_any (u0.toNat : Int) w')
  rw [hD] at HSM
  have hR := HZ.out.2.2.2.2.2
  obtain ⟨E, hE0⟩ : ∃ E, P.extract 0 k = E := ⟨_, rfl⟩
  obtain ⟨E1, hE1⟩ : ∃ E, P.extract 1 (k + 1) = E := ⟨_, rfl⟩
  have hEs : E.size ≤ 1048576 := by rw [← hE0, ByteArray.size_extract]; omega
  have hE1s : E1.size ≤ 1048576 := by rw [← hE1, ByteArray.size_extract]; omega
  have HNA : Hid (plcN P = if D then E1 else E) := hid (by
    unfold plcN
    rw [HD.out, show P.size - 1 = k by omega, hE0, hk, hE1])
  have HLA : Hid (plcL P = if D then u0 else u1) := hid (by
    unfold plcL
    rw [HD.out, hb0, show P.size - 1 = k by omega, hb1])
  have HPK := hid hk
  clear hD hb0 hb1

  cases D
  case true =>
    have HN1 : Hid (plcN P = E1) := hid (by rw [HNA.out]; rfl)
    have HL1 : Hid (plcL P = u0) := hid (by rw [HLA.out]; rfl)
    have HRD := hid (fun w' h => ReadDecimal_ex E1 w' hE1s h)
    clear HNA HLA
    go_wp2_with fail
    refine (HSM.out _).mono ?_
    rintro e w2 ⟨rfl, rfl⟩
    go_wp2_with fail
    go_quiet (fail)
    go_wp2_with fail
    go_quiet (fail)
    go_wp2_with fail
    have hEa : ∀ n, Ext w ((w1.alloc (.cells #[.int .i64 0, .int .i64 0, .bool true, .string Wd] 37)).drewN n) := fun n => (hE.alloc (.cells #[.int .i64 0, .int .i64 0, .bool true, .string Wd] 37)).drewN n
    refine (HRD.out _ (HNF.out _ (hEa _))).mono ?_
    rintro e w3 ⟨z, ok, rfl, hz, hx⟩
    have hE3 := (hEa _).trans hx
    have HSL := hid (((PSlot.new w1 0 0 true Wd).ext ((Ext.refl _).drewN _)).ext hx)
    have HZ3 := hid (((HZ.out.ext ((Ext.refl w1).alloc (.cells #[.int .i64 0, .int .i64 0, .bool true, .string Wd] 37))).ext ((Ext.refl _).drewN _)).ext hx)
    have hgR : w.heap.size ≠ w1.heap.size := by omega
    have hg1 : w.heap.size ≤ w1.heap.size := by omega
    obtain ⟨g, hg⟩ : ∃ g, w1.heap.size = g := ⟨_, rfl⟩
    rw [hg] at HSL hgR hg1 ⊢
    have hub : u0.toNat < 256 := u0.toNat_lt
    obtain ⟨Rz, hRz⟩ : ∃ R, IntKind.i64.wrap (z - 1) = R := ⟨_, rfl⟩
    obtain ⟨Cz, hCz⟩ : ∃ C : Int, (u0.toNat : Int) - 97 = C := ⟨_, rfl⟩
    have hCw : IntKind.i64.wrap Cz = Cz := IntWalk.i64_in _ (by omega)
    have HPT := hid (fun w' h => PlayText_any Rz Cz true Wd w' hWs h)
    obtain ⟨X, hX⟩ : ∃ X, playT Rz Cz true Wd = X := ⟨_, rfl⟩
    have HX := hid hX
    rw [hX] at HPT
    have HG : Hid (∀ (r c : Int) (d : Bool) (t : ByteArray), playOk r c t = true → playT r c d t = s → X = s ∧ s.size ≠ 0) := hid (fun r c d t h1 h2 => by
      obtain ⟨y1, y2, y3, y4, y5, y6, y7, y8, y9, y10⟩ := HSY.out r c d t h1 h2
      rw [HD.out] at y3
      rw [HN1.out] at y4
      rw [HL1.out] at y5
      obtain ⟨z1, -⟩ := hz.2.2.2 (r + 1).toNat (by omega) (by omega) y4
      have hr : Rz = r := by rw [← hRz, IntWalk.i64_in _ (by omega)]; omega
      have hc : Cz = c := by omega
      refine ⟨?_, y1⟩
      rw [← hX, hr, hc, y3, y6]
      exact h2)
    clear hX hz hx HRD HN1 HL1
    obtain ⟨g0, g1, g2, g3, gf, hgs⟩ := HSL.out
    have HSL4 := hid ((HSL.out.set0 Rz).set1 Cz)
    have HZ4 := hid ((HZ3.out.off (i := 0) (u := .int .i64 Rz) hgR).off (i := 1) (u := .int .i64 Cz) hgR)
    have hE4 := (hE3.setCell (p := ⟨g, 0, none⟩) hg1 (.int .i64 Rz)).setCell (p := ⟨g, 1, none⟩) hg1 (.int .i64 Cz)
    obtain ⟨W, hWW⟩ : ∃ W, (w3.setCell ⟨g, 0, none⟩ (.int .i64 Rz)).setCell ⟨g, 1, none⟩ (.int .i64 Cz) = W := ⟨_, rfl⟩
    rw [hWW] at HSL4 HZ4 hE4
    obtain ⟨d0, d1, d2, d3, df, hds⟩ := HSL4.out
    by_cases hse : s.size = 0
    · have hem : s.toList.isEmpty = true := by
        rw [List.isEmpty_iff, Lib.toList_data]
        exact List.eq_nil_of_length_eq_zero (by rw [list_len]; exact hse)
      obtain ⟨r0, r1, r2, r3, rf, hRR⟩ := HZ4.out
      go_wp2_with (rw [hWW]; clear hWW)
      have hV : readP s = .tuple #[playV 0 0 false ⟨#[]⟩, .bool false] := readP_no (fun r c d t h1 h2 => by
        exact (HG.out r c d t h1 h2).2 hse
        )
      refine bodyPost_ret (v := .tuple #[playV 0 0 false ⟨#[]⟩, .bool false]) (by simp [results, Tryd.results19, go_sem, r0, r1, r2, r3, rf]) rfl ⟨by rw [hV], (((hE4.setCell (by simp) _).setCell (by simp) _).setCell (by simp) _).setCell (by simp) _⟩
    have hem : s.toList.isEmpty = false := by
      rw [← Bool.not_eq_true, List.isEmpty_iff]
      intro e
      rw [Lib.toList_data] at e
      exact hse (by rw [← list_len, e]; rfl)
    go_wp2_with (rw [hWW]; clear hWW)
    refine (HPT.out _ (HTB.out _ hE4)).mono ?_
    rintro e w5 ⟨rfl, hx⟩
    have hE5 := hE4.trans hx
    obtain ⟨q0, q1, q2, q3, qf, hqs⟩ := HSL4.out.ext hx
    obtain ⟨r0, r1, r2, r3, rf, hRR⟩ := HZ4.out.ext hx
    clear hx d0 d1 d2 d3 df hds g0 g1 g2 g3 gf hgs
    by_cases hq : X = s
    · have hq1 : (X.toList == s.toList) = true := by rw [bytes_beqN, decide_eq_true hq]
      have hok : playOk Rz Cz Wd = true := by
        cases h : playOk Rz Cz Wd
        · exfalso
          have h1 := HX.out
          unfold playT at h1
          rw [h] at h1
          simp only [Bool.false_eq_true, if_false] at h1
          rw [hq] at h1
          exact hse (by rw [← h1]; rfl)
        · rfl
      have hV : readP s = .tuple #[playV Rz Cz true Wd, .bool true] := readP_yes hok (by rw [HX.out]; exact hq)
      clear hok
      go_wp2_with fail
      refine bodyPost_ret (v := .tuple #[playV Rz Cz true Wd, .bool true]) (by simp [results, Tryd.results19, go_sem, r0, r1, r2, r3, rf]) rfl ⟨by rw [hV], (((hE5.setCell (by simp) _).setCell (by simp) _).setCell (by simp) _).setCell (by simp) _⟩
    · have hq1 : (X.toList == s.toList) = false := by rw [bytes_beqN, decide_eq_false hq]
      go_wp2_with fail
      have hV : readP s = .tuple #[playV 0 0 false ⟨#[]⟩, .bool false] := readP_no (fun r c d t h1 h2 => by
        exact hq (HG.out r c d t h1 h2).1
        )
      refine bodyPost_ret (v := .tuple #[playV 0 0 false ⟨#[]⟩, .bool false]) (by simp [results, Tryd.results19, go_sem, r0, r1, r2, r3, rf]) rfl ⟨by rw [hV], (((hE5.setCell (by simp) _).setCell (by simp) _).setCell (by simp) _).setCell (by simp) _⟩
  
  case false =>
    have HN1 : Hid (plcN P = E) := hid (by rw [HNA.out]; rfl)
    have HL1 : Hid (plcL P = u1) := hid (by rw [HLA.out]; rfl)
    have HRD := hid (fun w' h => ReadDecimal_ex E w' hEs h)
    clear HNA HLA
    go_wp2_with fail
    refine (HSM.out _).mono ?_
    rintro e w2 ⟨rfl, rfl⟩
    go_wp2_with fail
    go_quiet (fail)
    go_wp2_with fail
    have hEa : ∀ n, Ext w ((w1.alloc (.cells #[.int .i64 0, .int .i64 0, .bool false, .string Wd] 37)).drewN n) := fun n => (hE.alloc (.cells #[.int .i64 0, .int .i64 0, .bool false, .string Wd] 37)).drewN n
    refine (HRD.out _ (HNF.out _ (hEa _))).mono ?_
    rintro e w3 ⟨z, ok, rfl, hz, hx⟩
    have hE3 := (hEa _).trans hx
    have HSL := hid (((PSlot.new w1 0 0 false Wd).ext ((Ext.refl _).drewN _)).ext hx)
    have HZ3 := hid (((HZ.out.ext ((Ext.refl w1).alloc (.cells #[.int .i64 0, .int .i64 0, .bool false, .string Wd] 37))).ext ((Ext.refl _).drewN _)).ext hx)
    have hgR : w.heap.size ≠ w1.heap.size := by omega
    have hg1 : w.heap.size ≤ w1.heap.size := by omega
    obtain ⟨g, hg⟩ : ∃ g, w1.heap.size = g := ⟨_, rfl⟩
    rw [hg] at HSL hgR hg1 ⊢
    have hub : u1.toNat < 256 := u1.toNat_lt
    obtain ⟨Rz, hRz⟩ : ∃ R, IntKind.i64.wrap (z - 1) = R := ⟨_, rfl⟩
    obtain ⟨Cz, hCz⟩ : ∃ C : Int, (u1.toNat : Int) - 97 = C := ⟨_, rfl⟩
    have hCw : IntKind.i64.wrap Cz = Cz := IntWalk.i64_in _ (by omega)
    have HPT := hid (fun w' h => PlayText_any Rz Cz false Wd w' hWs h)
    obtain ⟨X, hX⟩ : ∃ X, playT Rz Cz false Wd = X := ⟨_, rfl⟩
    have HX := hid hX
    rw [hX] at HPT
    have HG : Hid (∀ (r c : Int) (d : Bool) (t : ByteArray), playOk r c t = true → playT r c d t = s → X = s ∧ s.size ≠ 0) := hid (fun r c d t h1 h2 => by
      obtain ⟨y1, y2, y3, y4, y5, y6, y7, y8, y9, y10⟩ := HSY.out r c d t h1 h2
      rw [HD.out] at y3
      rw [HN1.out] at y4
      rw [HL1.out] at y5
      obtain ⟨z1, -⟩ := hz.2.2.2 (r + 1).toNat (by omega) (by omega) y4
      have hr : Rz = r := by rw [← hRz, IntWalk.i64_in _ (by omega)]; omega
      have hc : Cz = c := by omega
      refine ⟨?_, y1⟩
      rw [← hX, hr, hc, y3, y6]
      exact h2)
    clear hX hz hx HRD HN1 HL1
    obtain ⟨g0, g1, g2, g3, gf, hgs⟩ := HSL.out
    have HSL4 := hid ((HSL.out.set0 Rz).set1 Cz)
    have HZ4 := hid ((HZ3.out.off (i := 0) (u := .int .i64 Rz) hgR).off (i := 1) (u := .int .i64 Cz) hgR)
    have hE4 := (hE3.setCell (p := ⟨g, 0, none⟩) hg1 (.int .i64 Rz)).setCell (p := ⟨g, 1, none⟩) hg1 (.int .i64 Cz)
    obtain ⟨W, hWW⟩ : ∃ W, (w3.setCell ⟨g, 0, none⟩ (.int .i64 Rz)).setCell ⟨g, 1, none⟩ (.int .i64 Cz) = W := ⟨_, rfl⟩
    rw [hWW] at HSL4 HZ4 hE4
    obtain ⟨d0, d1, d2, d3, df, hds⟩ := HSL4.out
    by_cases hse : s.size = 0
    · have hem : s.toList.isEmpty = true := by
        rw [List.isEmpty_iff, Lib.toList_data]
        exact List.eq_nil_of_length_eq_zero (by rw [list_len]; exact hse)
      obtain ⟨r0, r1, r2, r3, rf, hRR⟩ := HZ4.out
      go_wp2_with (rw [hWW]; clear hWW)
      have hV : readP s = .tuple #[playV 0 0 false ⟨#[]⟩, .bool false] := readP_no (fun r c d t h1 h2 => by
        exact (HG.out r c d t h1 h2).2 hse
        )
      refine bodyPost_ret (v := .tuple #[playV 0 0 false ⟨#[]⟩, .bool false]) (by simp [results, Tryd.results19, go_sem, r0, r1, r2, r3, rf]) rfl ⟨by rw [hV], (((hE4.setCell (by simp) _).setCell (by simp) _).setCell (by simp) _).setCell (by simp) _⟩
    have hem : s.toList.isEmpty = false := by
      rw [← Bool.not_eq_true, List.isEmpty_iff]
      intro e
      rw [Lib.toList_data] at e
      exact hse (by rw [← list_len, e]; rfl)
    go_wp2_with (rw [hWW]; clear hWW)
    refine (HPT.out _ (HTB.out _ hE4)).mono ?_
    rintro e w5 ⟨rfl, hx⟩
    have hE5 := hE4.trans hx
    obtain ⟨q0, q1, q2, q3, qf, hqs⟩ := HSL4.out.ext hx
    obtain ⟨r0, r1, r2, r3, rf, hRR⟩ := HZ4.out.ext hx
    clear hx d0 d1 d2 d3 df hds g0 g1 g2 g3 gf hgs
    by_cases hq : X = s
    · have hq1 : (X.toList == s.toList) = true := by rw [bytes_beqN, decide_eq_true hq]
      have hok : playOk Rz Cz Wd = true := by
        cases h : playOk Rz Cz Wd
        · exfalso
          have h1 := HX.out
          unfold playT at h1
          rw [h] at h1
          simp only [Bool.false_eq_true, if_false] at h1
          rw [hq] at h1
          exact hse (by rw [← h1]; rfl)
        · rfl
      have hV : readP s = .tuple #[playV Rz Cz false Wd, .bool true] := readP_yes hok (by rw [HX.out]; exact hq)
      clear hok
      go_wp2_with fail
      refine bodyPost_ret (v := .tuple #[playV Rz Cz false Wd, .bool true]) (by simp [results, Tryd.results19, go_sem, r0, r1, r2, r3, rf]) rfl ⟨by rw [hV], (((hE5.setCell (by simp) _).setCell (by simp) _).setCell (by simp) _).setCell (by simp) _⟩
    · have hq1 : (X.toList == s.toList) = false := by rw [bytes_beqN, decide_eq_false hq]
      go_wp2_with fail
      have hV : readP s = .tuple #[playV 0 0 false ⟨#[]⟩, .bool false] := readP_no (fun r c d t h1 h2 => by
        exact hq (HG.out r c d t h1 h2).1
        )
      refine bodyPost_ret (v := .tuple #[playV 0 0 false ⟨#[]⟩, .bool false]) (by simp [results, Tryd.results19, go_sem, r0, r1, r2, r3, rf]) rfl ⟨by rw [hV], (((hE5.setCell (by simp) _).setCell (by simp) _).setCell (by simp) _).setCell (by simp) _⟩
end Go.Proofs.YtdecakimhjieeaaDoor
