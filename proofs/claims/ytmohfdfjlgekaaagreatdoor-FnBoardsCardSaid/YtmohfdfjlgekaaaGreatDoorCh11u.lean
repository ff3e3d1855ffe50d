/- The text of a board, walked by both. Conditions stand at each. -/
import Derived.Test.YtmohfdfjlgekaaaGreatDoorMg13
import Derived.Test.YtmohfdfjlgekaaaGreatDoorMg10
import Derived.Test.YtmohfdfjlgekaaaGreatDoorMg3
namespace Go.Proofs.YtmohfdfjlgekaaaGreatDoor
set_option linter.unusedVariables false
set_option linter.unusedSimpArgs false
open Go Go.RowKit
theorem headL (m : Nat) : nl (headS m) = (⟨#[98, 111, 97, 114, 100, 32]⟩ ++ decS m ++ ⟨#[10]⟩ : ByteArray).data.toList := by
  simp [nl, headS, ByteArray.data_append]
theorem join_len (m : Nat) (p c : ByteArray) (h1 : 5 ≤ m) (h2 : m ≤ 15) : (Lib.join ((linesL m p c).map (·.data.toList)) (⟨#[10]⟩ : ByteArray).data.toList).length ≤ 600 := by
  have h3 := flat_len (linesL m p c) 15 (lines_size m p c h1 h2)
  rw [lines_len] at h3
  have h4 : Lib.join ((linesL m p c).map (·.data.toList)) [10] ++ [10] = (linesL m p c).flatMap nl := by unfold linesL; exact join_nl _ _
  have h5 := congrArg List.length h4
  rw [List.length_append] at h5
  show (Lib.join ((linesL m p c).map (·.data.toList)) [10]).length ≤ 600
  simp only [List.length_singleton] at h5
  omega
/-- A list of strings that can be read. -/
def RdS (L : List ByteArray) (v : Value) (w : World) : Prop := ∃ a c, v = .slice a L.length c ∧ Rd w a (strsV L)
theorem RdS.ext {L : List ByteArray} {v : Value} {w w' : World} (h : RdS L v w) (x : Ext w w') : RdS L v w' := by
  obtain ⟨a, c, e, h1⟩ := h
  exact ⟨a, c, e, h1.ext x⟩
theorem flow_strs {P : Program} {f : FuncId} {args : Array Value} {L : List ByteArray} {w : World} (h : Calls P f args w (RetStrs L w)) : flowUpon P Ext w (fun v w' => RdS L v w') (.ok (.enter f args) w) :=
  ⟨Ext.refl w, h.mono fun _ _ ⟨a, c, he, ho, hx⟩ => ⟨_, he, hx, ⟨a, c, rfl, ho.rd⟩⟩⟩
/-- A list of one string, of the call's own. -/
def Own1 (B : Nat) (x : ByteArray) (v : Value) (w : World) : Prop := ∃ g c, v = .slice (some ⟨g, 0, none⟩) 1 c ∧ Own w B 9 1 (some ⟨g, 0, none⟩) 1 c (strsV [x])
theorem Own1.ext {B : Nat} {x : ByteArray} {v : Value} {w w' : World} (h : Own1 B x v w) (k : Ext w w') : Own1 B x v w' := by
  obtain ⟨g, c, e, h1⟩ := h
  exact ⟨g, c, e, h1.ext k⟩
set_option maxRecDepth 100000 in
set_option maxHeartbeats 4000000 in
theorem l11Text_any (b o : Nat) (m : Nat) (p c : ByteArray) (w : World) (hB : BdAt w b o m p c) (hp : p.size = m * m) (hc : c.size = m * m) (h1 : 5 ≤ m) (h2 : m ≤ 15) :
    Calls Tryz.prog 53 #[.pointer (some ⟨b, o, none⟩)] w (Ret (.string (textB m p c)) w) := by
  have HB := hid hB
  have HD := hid (fun w => l01Dec_any m w (by omega) (by omega))
  have HP := hid hp
  have HC := hid hc
  have HZ := hid (decS_size m (by omega))
  have HL := hid (fun k (w' : World) (h : BdAt w' b o m p c) (hk : k < m) => l11Line_any b o m p c k w' h h1 h2 hc hk)
  have hm2 : m * m ≤ 15 * 15 := Nat.mul_le_mul h2 h2
  have HX : Hid (textB m p c = ⟨(nl (headS m) ++ (rowsL m p m).flatMap nl ++ (rowsL m c m).flatMap nl).toArray⟩) := hid (by
    unfold textB linesL
    rw [List.flatMap_cons, List.flatMap_append, List.append_assoc])
  have HH := hid (headL m)
  have HF : Hid (∀ (s : ByteArray) k, (rowsL m s (k + 1)).flatMap nl = (rowsL m s k).flatMap nl ++ nl (rowAt m s k)) := hid (fun s k => by rw [rowsL_succ, List.flatMap_append]; simp)
  have HFL : Hid (∀ (s : ByteArray) k, ((rowsL m s k).flatMap nl).length ≤ k * 16) := hid (fun s k => by
    have := flat_len (rowsL m s k) 15 (fun x hx => by obtain ⟨j, _, rfl⟩ := List.mem_map.1 hx; exact Nat.le_trans (rowAt_size m s j) h2)
    rw [rowsL_length] at this
    exact this)
  have HHL : Hid ((nl (headS m)).length ≤ 9) := hid (by have := head_size m (by omega); simp [nl]; omega)
  obtain ⟨d, hd⟩ : ∃ d, decS m = d := ⟨_, rfl⟩
  have hdz : d.size ≤ 2 := by rw [← hd]; exact HZ.out
  rw [hd] at HD HH
  obtain ⟨b0, b1, b2⟩ := hB
  clear hp hc HZ hd
  go_enter Tryz.func53, Tryz.ntmps53
  go_wp2_with fail
  refine (HD.out _).mono ?_
  rintro e w1 ⟨rfl, hx⟩
  have hE := hx
  replace b0 := hx.cell b0
  replace b1 := hx.cell b1
  replace b2 := hx.cell b2
  have hno : ¬ 9223372036854775807 < (⟨#[98, 111, 97, 114, 100, 32]⟩ : ByteArray).size + d.size := by show ¬ 9223372036854775807 < 6 + d.size; omega
  have hno2 : ¬ 9223372036854775807 < 6 + d.size := by omega
  have hno3 : ¬ 9223372036854775807 < 6 + d.size + 1 := by omega
  clear hx
  go_wp2_with fail
  obtain ⟨S0, hS0⟩ : ∃ S0 : ByteArray, (⟨#[98, 111, 97, 114, 100, 32]⟩ ++ d ++ ⟨#[10]⟩ : ByteArray) = S0 := ⟨_, rfl⟩
  rw [hS0] at HH
  have HS0 := hid hS0
  rw [hS0]
  clear hS0 hno hno2 hno3
  go_loopw [3, 4] (fun s i wr => ∃ (k : Nat) (T : ByteArray), k ≤ m ∧ i = .int .i64 k ∧ s = .string T ∧ Hid (T.data.toList = nl (headS m) ++ (rowsL m p k).flatMap nl) ∧ T.size ≤ 9 + k * 16 ∧ Ext w wr) (fun _ i _ => m - (intOf i).toNat)
  case atStart => exact ⟨0, S0, by omega, rfl, rfl, hid (by rw [HH.out]; simp [rowsL]), by have := HHL.out; rw [HH.out] at this; simpa using this, hE⟩
  case round =>
    clear hE b0 b1 b2
    obtain ⟨k, T, hk, rfl, rfl, HT, hTs, hE⟩ := hrel
    obtain ⟨b0, b1, b2⟩ := HB.out.ext hE
    by_cases hlt : k < m
    · have hb1 : k * m + m ≤ p.size := by
        rw [HP.out]
        have : (k + 1) * m ≤ m * m := Nat.mul_le_mul_right m (by omega)
        rw [Nat.add_mul, Nat.one_mul] at this
        omega
      have z1 : (0 : Int) ≤ (k : Int) * m := Int.mul_nonneg (by omega) (by omega)
      have z2 : (k : Int) * m + m ≤ p.size := by rw [← Int.natCast_mul, ← Int.natCast_add]; omega
      have z3 : ((k : Int) + 1) * m = (k : Int) * m + m := by rw [Int.add_mul, Int.one_mul]
      have z4 : (k : Int) * m ≤ 225 := by have := HP.out; omega
      have zw1 : IntKind.i64.wrap ((k : Int) * m) = (k : Int) * m := IntWalk.i64_in _ (by omega)
      have zw2 : IntKind.i64.wrap ((k : Int) * m + m) = (k : Int) * m + m := IntWalk.i64_in _ (by omega)
      go_wp2_with fail
      go_quiet (fail)
      go_wp2_with fail
      go_roundw
      case rel =>
        refine ⟨k + 1, T ++ (rowAt m p k ++ ⟨#[10]⟩), by omega, by go_num, rfl, hid ?_, ?_, hE.drewN _⟩
        · rw [HF.out, ByteArray.data_append, Array.toList_append, HT.out, List.append_assoc]
          simp [nl, ByteArray.data_append]
        · have := rowAt_size m p k
          rw [ByteArray.size_append, ByteArray.size_append]
          show T.size + ((rowAt m p k).size + 1) ≤ _
          omega
      case measure => simp [intOf]; omega
    · obtain rfl : k = m := by omega
      clear hlt hk
      go_wp2_with fail
      clear b0 b1 b2
      go_loopw [3, 5] (fun s i wr => ∃ (j : Nat) (T : ByteArray), j ≤ k ∧ i = .int .i64 j ∧ s = .string T ∧ Hid (T.data.toList = nl (headS k) ++ (rowsL k p k).flatMap nl ++ (rowsL k c j).flatMap nl) ∧ T.size ≤ 9 + k * 16 + j * 16 ∧ Ext w wr) (fun _ i _ => k - (intOf i).toNat)
      case atStart => exact ⟨0, T, by omega, rfl, rfl, hid (by rw [HT.out]; simp [rowsL]), by omega, hE⟩
      case round =>
        clear hE
        obtain ⟨j, T2, hj, rfl, rfl, HT2, hT2s, hE⟩ := hrel
        have HBB := hid (HB.out.ext hE)
        obtain ⟨b0, b1, b2⟩ := HBB.out
        by_cases hlt : j < k
        · have hrs := rowAt_size k c j
          obtain ⟨R, hR⟩ : ∃ R, rowAt k c j = R := ⟨_, rfl⟩
          have HR := hid hR
          have HLj := hid (HL.out j _ HBB.out hlt)
          rw [hR] at hrs HLj
          clear hR
          go_wp2_with fail
          refine HLj.out.mono ?_
          rintro e w4 ⟨rfl, hD⟩
          have hE4 := hE.trans hD.ext
          have hn1 : ¬ 9223372036854775807 < R.size + 1 := by omega
          have hn2 : ¬ 9223372036854775807 < T2.size + (R.size + 1) := by omega
          clear hD b0 b1 b2
          go_wp2_with fail
          go_roundw
          case rel =>
            refine ⟨j + 1, T2 ++ (R ++ ⟨#[10]⟩), by omega, by go_num, rfl, hid ?_, ?_, hE4⟩
            · rw [HF.out, ByteArray.data_append, Array.toList_append, HT2.out, ← HR.out]
              simp [nl, ByteArray.data_append]
            · rw [ByteArray.size_append, ByteArray.size_append]
              show T2.size + (R.size + 1) ≤ _
              omega
          case measure => simp [intOf]; omega
        · obtain rfl : j = k := by omega
          go_wp2_with fail
          go_returns
          refine ⟨?_, hE⟩
          have hq : T2 = textB j p c := ba_ext2 (by rw [HX.out]; simpa using HT2.out)
          rw [← hq]
          rfl
set_option maxHeartbeats 1000000 in
theorem sBoardText_any (n : Int) (p c : ByteArray) (w : World) (hp : p.size ≤ 1048576) (hc : c.size ≤ 1048576) : Calls Tryz.prog 24 #[boardV n p c] w (Ret (.string (textV n p c)) w) := by
  have HB0 : Hid (BdAt (w.alloc (.cells #[.int .i64 n, .string p, .string c] 25)) w.heap.size 0 n p c) := hid ⟨by simp, by simp, by simp⟩
  have HO := hid (l11Ok_any w.heap.size 0 n p c _ HB0.out hp hc)
  cases hk : okB n p c
  · have HV : Hid (textV n p c = ⟨#[]⟩) := hid (by unfold textV; rw [hk]; rfl)
    rw [hk] at HO
    clear hk
    go_enter Tryz.func24, Tryz.ntmps24
    go_wp2_with fail
    refine HO.out.mono ?_
    rintro e w1 ⟨rfl, hD⟩
    have hE := ((Ext.refl w).alloc (.cells #[.int .i64 n, .string p, .string c] 25)).trans hD.ext
    clear hD
    go_wp2_with fail
    go_returns
    exact ⟨by rw [HV.out]; rfl, hE⟩
  · obtain ⟨h1, h2, h3, h4⟩ := okB_true hk
    obtain ⟨m, rfl⟩ := nat_of h1
    have HV : Hid (textV (m : Int) p c = textB m p c) := hid (by unfold textV; rw [hk]; rfl)
    have hp2 : p.size = m * m := by have : ((m * m : Nat) : Int) = (m : Int) * m := by push_cast; rfl
                                    omega
    have hc2 : c.size = m * m := by have : ((m * m : Nat) : Int) = (m : Int) * m := by push_cast; rfl
                                    omega
    have HT := hid (fun (w' : World) (h : BdAt w' w.heap.size 0 m p c) => l11Text_any w.heap.size 0 m p c w' h hp2 hc2 (by omega) (by omega))
    rw [hk] at HO
    clear hk h3 h4 hp2 hc2
    go_enter Tryz.func24, Tryz.ntmps24
    go_wp2_with fail
    refine HO.out.mono ?_
    rintro e w1 ⟨rfl, hD⟩
    have hE := ((Ext.refl w).alloc (.cells #[.int .i64 m, .string p, .string c] 25)).trans hD.ext
    have HB1 := hid (HB0.out.ext hD.ext)
    clear hD
    go_wp2_with fail
    refine (HT.out _ HB1.out).mono ?_
    rintro e w2 ⟨rfl, hx⟩
    have hE2 := hE.trans hx
    clear hx
    go_wp2_with fail
    go_returns
    exact ⟨by rw [HV.out]; rfl, hE2⟩
set_option maxRecDepth 100000 in
set_option maxHeartbeats 4000000 in
theorem BoardText_any (n : Int) (p c : ByteArray) (w : World) (hp : p.size ≤ 1048576) (hc : c.size ≤ 1048576) : Calls Tryz.prog 20 #[boardV n p c] w (Ret (.string (textV n p c)) w) := by
  have HO := hid (fun w' => ValidBoard_any n p c w' hp hc)
  cases hk : okB n p c
  · have HV : Hid (textV n p c = ⟨#[]⟩) := hid (by unfold textV; rw [hk]; rfl)
    rw [hk] at HO
    clear hk
    go_enter Tryz.func20, Tryz.ntmps20
    go_wp2_with fail
    refine (HO.out _).mono ?_
    rintro e w1 ⟨rfl, hx⟩
    have hE := ((Ext.refl w).alloc (.cells #[.int .i64 n, .string p, .string c] 25)).trans hx
    clear hx
    go_wp2_with fail
    go_returns
    exact ⟨by rw [HV.out]; rfl, hE⟩
  · obtain ⟨h1, h2, h3, h4⟩ := okB_true hk
    obtain ⟨m, rfl⟩ := nat_of h1
    have HV : Hid (textV (m : Int) p c = textB m p c) := hid (by unfold textV; rw [hk]; rfl)
    have hp2 : p.size = m * m := by have : ((m * m : Nat) : Int) = (m : Int) * m := by push_cast; rfl
                                    omega
    have hc2 : c.size = m * m := by have : ((m * m : Nat) : Int) = (m : Int) * m := by push_cast; rfl
                                    omega
    have hm5 : 5 ≤ m := by omega
    have hm15 : m ≤ 15 := by omega
    have HRp := hid (fun (w' : World) => rows_any m p c p w' hp2 hm5 hm15)
    have HRc := hid (fun (w' : World) => rows_any m p c c w' hc2 hm5 hm15)
    have HD := hid (Decimal_any m (by omega))
    have HZ := hid (decS_size m (by omega))
    have HRpl := hid (rowsL_length m p m)
    have HRcl := hid (rowsL_length m c m)
    have HLn := hid (lines_len m p c)
    have HLs := hid (lines_size m p c hm5 hm15)
    have HLe : Hid (linesL m p c = [headS m] ++ rowsL m p m ++ rowsL m c m) := hid (by unfold linesL; simp)
    have HTB : Hid (textB m p c = ⟨(Lib.join ((linesL m p c).map (fun s : ByteArray => s.data.toList)) [10] ++ [10]).toArray⟩) := hid (by unfold textB linesL; rw [join_nl])
    have HHd : Hid (headS m = ⟨#[98, 111, 97, 114, 100, 32]⟩ ++ decS m) := hid rfl
    have HJL := hid (join_len m p c hm5 hm15)
    obtain ⟨d, hd⟩ : ∃ d, decS m = d := ⟨_, rfl⟩
    have hdz : d.size ≤ 2 := by rw [← hd]; exact HZ.out
    obtain ⟨X, hX⟩ : ∃ X, headS m = X := ⟨_, rfl⟩
    rw [hd] at HD HHd
    rw [hX] at HHd HLe
    have hno2 : ¬ 9223372036854775807 < 6 + d.size := by omega
    rw [hk] at HO
    clear hk h3 h4 hp2 hc2 hd hX HZ
    go_enter Tryz.func20, Tryz.ntmps20
    go_wp2_with fail
    refine (HO.out _).mono ?_
    rintro e u1 ⟨rfl, hx⟩
    have hE := ((Ext.refl w).alloc (.cells #[.int .i64 m, .string p, .string c] 25)).trans hx
    have b0 := hx.cell (b := w.heap.size) (o := 0) (v := .int .i64 m) (by simp)
    have b1 := hx.cell (b := w.heap.size) (o := 1) (v := .string p) (by simp)
    have b2 := hx.cell (b := w.heap.size) (o := 2) (v := .string c) (by simp)
    have hz1 := World.block_lt_of_cell? _ _ b0
    simp only [] at hz1
    clear hx
    go_wp2_with fail
    refine wp_region_flow_at (C := Ext) 9 [fun v _ => v = .pointer (some ⟨w.heap.size, 0, none⟩), fun v _ => v = .int .i64 m, fun v _ => v = .string d, fun v _ => v = .string X, fun v w' => Own1 (w.heap.size + 1) X v w', fun v _ => v = .agg #[.int .i64 m, .string p, .string c], fun v _ => v = .pointer (some ⟨w.heap.size, 1, none⟩), fun v _ => v = .string p, fun v w' => RdS (rowsL m p m) v w']
      [[(1, none)], [(7, some 0)], [(8, some 1)], [(9, some 2)], [(10, some 3)], [(1, none)], [(1, none)], [(13, some 6)], [(12, some 5), (14, some 7)]] (by kernel_rfl) (by kernel_rfl) Ext.refl (fun _ _ _ => Ext.trans) ?_ ?_ ?_
    · intro F hF
      simp only [List.mem_cons, List.not_mem_nil, or_false] at hF
      rcases hF with rfl | rfl | rfl | rfl | rfl | rfl | rfl | rfl | rfl
      · exact fun _ _ _ h _ => h
      · exact fun _ _ _ h _ => h
      · exact fun _ _ _ h _ => h
      · exact fun _ _ _ h _ => h
      · exact fun _ _ _ h k => h.ext k
      · exact fun _ _ _ h _ => h
      · exact fun _ _ _ h _ => h
      · exact fun _ _ _ h _ => h
      · exact fun _ _ _ h k => h.ext k
    · refine ⟨?_, ?_, ?_, ?_, ?_, ?_, ?_, ?_, ?_, trivial⟩
      · rintro ρ w1 hw hcst hfn hk
        clear hw
        simp only [known, List.getD_cons_zero, List.getD_cons_succ, Nat.reduceAdd] at hk
        simp only [List.getD_cons_zero, List.getD_cons_succ, Nat.reduceAdd, flowAt]
        go_simp
        exact ⟨Ext.refl _, by first | rfl | trivial⟩
      · rintro ρ w1 hw hcst hfn hk
        have c0 := hw.cell (b := w.heap.size) (o := 0) (v := .int .i64 m) (by first | (simp [*]; done) | (simp [*, go_sem]; done) | go_cell)
        clear hw
        simp only [known, List.getD_cons_zero, List.getD_cons_succ, Nat.reduceAdd] at hk
        simp only [List.getD_cons_zero, List.getD_cons_succ, Nat.reduceAdd, flowAt]
        go_simp
        exact ⟨Ext.refl _, by first | rfl | trivial⟩
      · rintro ρ w1 hw hcst hfn hk
        simp only [known, List.getD_cons_zero, List.getD_cons_succ, Nat.reduceAdd] at hk
        simp only [List.getD_cons_zero, List.getD_cons_succ, Nat.reduceAdd, flowAt]
        go_simp
        exact flow_same (HD.out _)
      · rintro ρ w1 hw hcst hfn hk
        simp only [known, List.getD_cons_zero, List.getD_cons_succ, Nat.reduceAdd] at hk
        simp only [List.getD_cons_zero, List.getD_cons_succ, Nat.reduceAdd, flowAt]
        go_simp
        exact ⟨Ext.refl _, by rw [HHd.out]⟩
      · rintro ρ w1 hw hcst hfn hk
        simp only [known, List.getD_cons_zero, List.getD_cons_succ, Nat.reduceAdd] at hk
        simp only [List.getD_cons_zero, List.getD_cons_succ, Nat.reduceAdd, flowAt]
        go_simp
        exact ⟨(Ext.refl _).alloc _, _, 1, rfl, (own_lit _ 9 (strsV [X]) 1 rfl (by unfold maxLen; omega)).mono (Nat.le_trans (show w.heap.size + 1 ≤ u1.heap.size from hz1) hw.size)⟩
      · rintro ρ w1 hw hcst hfn hk
        have c0 := hw.cell (b := w.heap.size) (o := 0) (v := .int .i64 m) (by first | (simp [*]; done) | (simp [*, go_sem]; done) | go_cell)
        have c1 := hw.cell (b := w.heap.size) (o := 1) (v := .string p) (by first | (simp [*]; done) | (simp [*, go_sem]; done) | go_cell)
        have c2 := hw.cell (b := w.heap.size) (o := 2) (v := .string c) (by first | (simp [*]; done) | (simp [*, go_sem]; done) | go_cell)
        clear hw
        simp only [known, List.getD_cons_zero, List.getD_cons_succ, Nat.reduceAdd] at hk
        simp only [List.getD_cons_zero, List.getD_cons_succ, Nat.reduceAdd, flowAt]
        go_simp
        exact ⟨Ext.refl _, by first | rfl | trivial⟩
      · rintro ρ w1 hw hcst hfn hk
        clear hw
        simp only [known, List.getD_cons_zero, List.getD_cons_succ, Nat.reduceAdd] at hk
        simp only [List.getD_cons_zero, List.getD_cons_succ, Nat.reduceAdd, flowAt]
        go_simp
        exact ⟨Ext.refl _, by first | rfl | trivial⟩
      · rintro ρ w1 hw hcst hfn hk
        have c0 := hw.cell (b := w.heap.size) (o := 1) (v := .string p) (by first | (simp [*]; done) | (simp [*, go_sem]; done) | go_cell)
        clear hw
        simp only [known, List.getD_cons_zero, List.getD_cons_succ, Nat.reduceAdd] at hk
        simp only [List.getD_cons_zero, List.getD_cons_succ, Nat.reduceAdd, flowAt]
        go_simp
        exact ⟨Ext.refl _, by first | rfl | trivial⟩
      · rintro ρ w1 hw hcst hfn hk
        simp only [known, List.getD_cons_zero, List.getD_cons_succ, Nat.reduceAdd] at hk
        simp only [List.getD_cons_zero, List.getD_cons_succ, Nat.reduceAdd, flowAt]
        go_simp
        exact flow_strs (HRp.out _)
    intro vs w1 hw hf
    simp only [flowFacts, Nat.reduceAdd] at hf
    obtain ⟨e0, e1, e2, e3, e4, e5, e6, e7, e8, -⟩ := hf
    simp only [List.take_succ_cons, List.take_zero, List.drop_succ_cons, List.drop_zero, putAll, Act.put, Nat.reduceAdd, List.setIfInBounds_toArray, List.set_cons_zero, List.set_cons_succ, e0, e1, e2, e3, e5, e6, e7]
    clear e0 e1 e2 e3 e5 e6 e7
    obtain ⟨g4, c4, e4v, o4⟩ := e4
    obtain ⟨a8, c8, e8v, r8⟩ := e8
    rw [e4v, e8v]
    have hx := (Ext.refl _).drew.trans hw
    replace hE := hE.trans hx
    replace b0 := hx.cell b0
    replace b1 := hx.cell b1
    replace b2 := hx.cell b2
    have HO4 := hid o4
    have HR8 := hid r8
    have hz2 := World.block_lt_of_cell? _ _ b0
    simp only [] at hz2
    clear hx hw e4v e8v o4 r8 hz1
    go_wp2_with (at_builtin; refine wpList_appendm rfl _ _ 27 rfl El_str rfl rfl (strsV (rowsL m p m)) HR8.out (by rw [strsV_length]; omega) (by intro u hu; simp only [strsV, List.mem_map] at hu; obtain ⟨x, _, rfl⟩ := hu; rfl) HO4.out (by omega) (by unfold maxLen; have := HRpl.out; omega) (by have := HRpl.out; omega) ?_; intro a5 c5 w5 hown5 hb5; have HO5 := hid hown5; have HE5 := hid (hE.thenBelow hb5 (by omega)); have d0 := (show w5.cell? ⟨w.heap.size, 0, none⟩ = some (.int .i64 m) by rw [Below.cell hb5 (p := ⟨w.heap.size, 0, none⟩) (Nat.lt_succ_self _)]; exact b0); have d1 := (show w5.cell? ⟨w.heap.size, 1, none⟩ = some (.string p) by rw [Below.cell hb5 (p := ⟨w.heap.size, 1, none⟩) (Nat.lt_succ_self _)]; exact b1); have d2 := (show w5.cell? ⟨w.heap.size, 2, none⟩ = some (.string c) by rw [Below.cell hb5 (p := ⟨w.heap.size, 2, none⟩) (Nat.lt_succ_self _)]; exact b2); have hz5 := hb5.size; clear hown5 hb5 b0 b1 b2)
    refine (HRc.out _).mono ?_
    rintro e w6 ⟨a6, c6, rfl, ho6, hx6⟩
    have HR6 := hid ho6.rd
    have HO6 := hid (HO5.out.ext hx6)
    have HE6 := hid (HE5.out.trans hx6)
    have hz6 := hx6.size
    clear ho6 hx6 HO5 HE5 d0 d1 d2
    go_wp2_with (at_builtin; refine wpList_appendm rfl _ _ 27 rfl El_str rfl rfl (strsV (rowsL m c m)) HR6.out (by rw [strsV_length]; omega) (by intro u hu; simp only [strsV, List.mem_map] at hu; obtain ⟨x, _, rfl⟩ := hu; rfl) HO6.out (by omega) (by unfold maxLen; have := HRpl.out; have := HRcl.out; omega) (by have := HRpl.out; have := HRcl.out; omega) ?_; intro a7 c7 w7 hown7 hb7; have HO7 := hid hown7; have HE7 := hid (HE6.out.thenBelow hb7 (by omega)); clear hown7 hb7)
    have hLen : 1 + (rowsL m p m).length + (rowsL m c m).length = (linesL m p c).length := by
      rw [HLn.out, HRpl.out, HRcl.out]
      omega
    rw [hLen]
    have HO8 : Own w7 (w.heap.size + 1) 9 1 a7 (linesL m p c).length c7 (strsV (linesL m p c)) := by
      have h := HO7.out
      rw [hLen] at h
      rw [HLe.out] at h ⊢
      simpa [strsV] using h
    obtain ⟨g, ha, hg1, hg2, _, _⟩ := HO8.form (by rw [HLn.out]; omega)
    subst ha
    have HJ := hid (Tryz.strings_Join g 0 c7 (linesL m p c) ⟨#[10]⟩ w7 (fun j x hj => by
      obtain ⟨b', o', e1, e2⟩ := HO8.rd j (.string x) (by simp [strsV, hj])
      cases e1
      exact e2) hg2 (by rw [HLn.out]; omega) HO8.le (Nat.le_trans HJL.out (by omega)))
    obtain ⟨J, hJ⟩ : ∃ J : ByteArray, (⟨(Lib.join ((linesL m p c).map (·.data.toList)) (⟨#[10]⟩ : ByteArray).data.toList).toArray⟩ : ByteArray) = J := ⟨_, rfl⟩
    rw [hJ] at HJ
    have HJs : Hid (J.size ≤ 600) := hid (by
      rw [← hJ]
      show (Lib.join ((linesL m p c).map (·.data.toList)) (⟨#[10]⟩ : ByteArray).data.toList).toArray.size ≤ 600
      rw [List.size_toArray]
      exact HJL.out)
    have hno9 : ¬ 9223372036854775807 < J.size + 1 := by have := HJs.out; omega
    have HTJ : Hid (textB m p c = J ++ ⟨#[10]⟩) := hid (by
      rw [HTB.out, ← hJ]
      apply ba_ext2
      simp [ByteArray.data_append])
    clear hJ HO8 HO7 hLen hg1 hg2
    refine HJ.out.mono ?_
    rintro e w8 ⟨rfl, hb8⟩
    have HE8 := hid (HE7.out.trans hb8)
    clear hb8
    go_wp2_with fail
    go_returns
    exact ⟨by rw [HV.out, HTJ.out]; rfl, HE8.out⟩
end Go.Proofs.YtmohfdfjlgekaaaGreatDoor
