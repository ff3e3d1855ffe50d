/- The text of a play, by both. Conditions stand at each. -/
import Derived.Test.YtdecakimhjieeaaDoorDec
import Derived.Test.YtdecakimhjieeaaDoorLwE
import Derived.Test.YtdecakimhjieeaaDoorCh03a
namespace Go.Proofs.YtdecakimhjieeaaDoor
set_option linter.unusedVariables false
set_option linter.unusedSimpArgs false
open Go Go.RowKit
def colS (c : Int) : ByteArray := ⟨#[UInt8.ofNat (97 + c.toNat)]⟩
def playOk (r c : Int) (s : ByteArray) : Bool := inB r 0 14 && (inB c 0 14 && mainB s)
def playT (r c : Int) (d : Bool) (s : ByteArray) : ByteArray :=
  if playOk r c s then if d then colS c ++ decS (r + 1).toNat ++ ⟨#[32]⟩ ++ s else decS (r + 1).toNat ++ colS c ++ ⟨#[32]⟩ ++ s else ⟨#[]⟩
set_option maxHeartbeats 1000000 in
theorem l12Plain_any (r c : Int) (d : Bool) (s : ByteArray) (w : World) (hs : s.size ≤ 1048576) : Calls Tryd.prog 34 #[playV r c d s] w (Ret (.bool (playOk r c s)) w) := by
  have HW := hid (fun w' => l12Word_any s w' hs)
  have H : Hid (playOk r c s = (inB r 0 14 && (inB c 0 14 && mainB s))) := hid rfl
  obtain ⟨x, hx⟩ : ∃ x, inB r 0 14 = x := ⟨_, rfl⟩
  obtain ⟨y, hy⟩ : ∃ y, inB c 0 14 = y := ⟨_, rfl⟩
  obtain ⟨z, hz⟩ : ∃ z, mainB s = z := ⟨_, rfl⟩
  have HX := hid (fun w' => l00In_any r 0 14 w')
  have HY := hid (fun w' => l00In_any c 0 14 w')
  rw [hx, hy, hz] at H
  rw [hx] at HX
  rw [hy] at HY
  rw [hz] at HW
  clear hx hy hz
  cases x
  · go_enter Tryd.func34, Tryd.ntmps34
    go_wp2_with fail
    refine (HX.out _).mono ?_
    rintro e w1 ⟨rfl, rfl⟩
    go_wp2_with fail
    go_returns
    exact ⟨ret_bool (by rw [H.out]; rfl), (Ext.refl w).alloc _⟩
  · cases y
    · go_enter Tryd.func34, Tryd.ntmps34
      go_wp2_with fail
      refine (HX.out _).mono ?_
      rintro e w1 ⟨rfl, rfl⟩
      go_wp2_with fail
      refine (HY.out _).mono ?_
      rintro e w1 ⟨rfl, rfl⟩
      go_wp2_with fail
      go_returns
      exact ⟨ret_bool (by rw [H.out]; rfl), (Ext.refl w).alloc _⟩
    · go_enter Tryd.func34, Tryd.ntmps34
      go_wp2_with fail
      refine (HX.out _).mono ?_
      rintro e w1 ⟨rfl, rfl⟩
      go_wp2_with fail
      refine (HY.out _).mono ?_
      rintro e w1 ⟨rfl, rfl⟩
      go_wp2_with fail
      refine (HW.out _).mono ?_
      rintro e w1 ⟨rfl, rfl⟩
      go_wp2_with fail
      go_returns
      exact ⟨ret_bool (by rw [H.out]; rfl), (Ext.refl w).alloc _⟩
theorem col_u8 (c : Int) (h0 : 0 ≤ c) (h1 : c ≤ 14) : ((UInt8.ofNat (97 + c.toNat)).toNat : Int) = 97 + c := by simp; omega
theorem col_enc (c : Int) (h0 : 0 ≤ c) (h1 : c ≤ 14) : Utf8.encode (97 + c) = colS c := by
  obtain ⟨k, rfl⟩ : ∃ k : Nat, c = k := ⟨c.toNat, by omega⟩
  have : ∀ k : Fin 15, Utf8.encode (97 + ((k : Nat) : Int)) = colS ((k : Nat) : Int) := by decide +kernel
  exact this ⟨k, by omega⟩
theorem main_size {s : ByteArray} (h : mainB s = true) : s.size ≤ 12 := by
  simp only [mainB, Bool.and_eq_true, decide_eq_true_eq] at h
  omega
theorem playOk_true {r c : Int} {s : ByteArray} (h : playOk r c s = true) : (0 ≤ r ∧ r ≤ 14) ∧ (0 ≤ c ∧ c ≤ 14) ∧ s.size ≤ 12 := by
  unfold playOk at h
  simp only [Bool.and_eq_true] at h
  exact ⟨by simpa [inB] using h.1, by simpa [inB] using h.2.1, main_size h.2.2⟩
set_option maxHeartbeats 1000000 in
theorem l12Text_any (r c : Int) (d : Bool) (s : ByteArray) (w : World) (h : playOk r c s = true) : Calls Tryd.prog 35 #[playV r c d s] w (Ret (.string (playT r c d s)) w) := by
  obtain ⟨⟨r0, r1⟩, ⟨c0, c1⟩, hs⟩ := playOk_true h
  have HT : Hid (playT r c d s = if d then colS c ++ decS (r + 1).toNat ++ ⟨#[32]⟩ ++ s else decS (r + 1).toNat ++ colS c ++ ⟨#[32]⟩ ++ s) := hid (by unfold playT; rw [if_pos h])
  have HD := hid (fun w' => l01Dec_any (r + 1).toNat w' (by omega) (by omega))
  have HZ := decS_size (r + 1).toNat (by omega)
  rw [show (((r + 1).toNat : Nat) : Int) = r + 1 by omega] at HD
  obtain ⟨D, hD⟩ : ∃ D, decS (r + 1).toNat = D := ⟨_, rfl⟩
  obtain ⟨K, hK⟩ : ∃ K, colS c = K := ⟨_, rfl⟩
  have hKs : K.size = 1 := by rw [← hK]; rfl
  obtain ⟨x, hx⟩ : ∃ x : UInt8, UInt8.ofNat (97 + c.toNat) = x := ⟨_, rfl⟩
  have HU := hid (col_u8 c c0 c1)
  have HK : Hid (K = ⟨[x].toArray⟩) := hid (by rw [← hK, ← hx]; rfl)
  rw [hx] at HU
  rw [hD] at HD HZ HT
  rw [hK] at HT
  clear h hD hK hx
  have HTT : Hid (if d then playT r c d s = K ++ D ++ ⟨#[32]⟩ ++ s else playT r c d s = D ++ K ++ ⟨#[32]⟩ ++ s) := hid (by cases d <;> simpa using HT.out)
  clear HT
  have hn1 : ¬ 9223372036854775807 < K.size + D.size := by omega
  have hn2 : ¬ 9223372036854775807 < K.size + D.size + 1 := by omega
  have hn3 : ¬ 9223372036854775807 < K.size + D.size + 1 + s.size := by omega
  have hn4 : ¬ 9223372036854775807 < D.size + K.size := by omega
  have hn5 : ¬ 9223372036854775807 < D.size + K.size + 1 := by omega
  have hn6 : ¬ 9223372036854775807 < D.size + K.size + 1 + s.size := by omega
  have HKs := hid hKs
  clear hKs
  cases d
  case' false =>
    go_enter Tryd.func35, Tryd.ntmps35
    go_wp2_with fail
    refine (HD.out _).mono ?_
    rintro e w1 ⟨rfl, hx⟩
    have hE := ((Ext.refl w).alloc (.cells #[.int .i64 r, .int .i64 c, .bool false, .string s] 37)).trans hx
    have b0 := hx.cell (b := w.heap.size) (o := 0) (v := .int .i64 r) (by simp)
    have b1 := hx.cell (b := w.heap.size) (o := 1) (v := .int .i64 c) (by simp)
    have b2 := hx.cell (b := w.heap.size) (o := 2) (v := .bool false) (by simp)
    have b3 := hx.cell (b := w.heap.size) (o := 3) (v := .string s) (by simp)
    have hlt1 := World.block_lt_of_cell? _ _ b0
    have HB : Hid (Rd (w1.alloc (.cells #[.int .u8 (97 + c)] 5)) (some ⟨w1.heap.size, 0, none⟩) (bytesV [x])) := hid (by
      intro j u hj
      match j with
      | 0 =>
        simp only [bytesV, List.map_cons, List.map_nil, List.getElem?_cons_zero, Option.some.injEq] at hj
        subst hj
        exact ⟨w1.heap.size, 0, rfl, by rw [HU.out]; simp⟩
      | j + 1 => simp [bytesV] at hj)
    clear hx
    go_wp2_with (refine wpList_str rfl _ 67 9 rfl Tryd.underlying67 Tryd.underlying5 Tryd.underlying9 rfl (l := [x]) rfl HB.out ?_; rw [← HK.out])
    have HZ2 := HTT.out
  case' true =>
    go_enter Tryd.func35, Tryd.ntmps35
    go_wp2_with fail
    refine (HD.out _).mono ?_
    rintro e w1 ⟨rfl, hx⟩
    have hE := ((Ext.refl w).alloc (.cells #[.int .i64 r, .int .i64 c, .bool true, .string s] 37)).trans hx
    have b0 := hx.cell (b := w.heap.size) (o := 0) (v := .int .i64 r) (by simp)
    have b1 := hx.cell (b := w.heap.size) (o := 1) (v := .int .i64 c) (by simp)
    have b2 := hx.cell (b := w.heap.size) (o := 2) (v := .bool true) (by simp)
    have b3 := hx.cell (b := w.heap.size) (o := 3) (v := .string s) (by simp)
    have hlt1 := World.block_lt_of_cell? _ _ b0
    have HB : Hid (Rd (w1.alloc (.cells #[.int .u8 (97 + c)] 5)) (some ⟨w1.heap.size, 0, none⟩) (bytesV [x])) := hid (by
      intro j u hj
      match j with
      | 0 =>
        simp only [bytesV, List.map_cons, List.map_nil, List.getElem?_cons_zero, Option.some.injEq] at hj
        subst hj
        exact ⟨w1.heap.size, 0, rfl, by rw [HU.out]; simp⟩
      | j + 1 => simp [bytesV] at hj)
    clear hx
    go_wp2_with (refine wpList_str rfl _ 67 9 rfl Tryd.underlying67 Tryd.underlying5 Tryd.underlying9 rfl (l := [x]) rfl HB.out ?_; rw [← HK.out])
    have HZ2 := HTT.out
  all_goals
    go_returns
    simp only [if_true, if_false, Bool.false_eq_true] at HZ2
    exact ⟨by rw [HZ2]; rfl, hE.alloc _⟩
set_option maxHeartbeats 800000 in
theorem sPlayText_any (r c : Int) (d : Bool) (s : ByteArray) (w : World) (hs : s.size ≤ 1048576) : Calls Tryd.prog 15 #[playV r c d s] w (Ret (.string (playT r c d s)) w) := by
  have HP := hid (fun w' => l12Plain_any r c d s w' hs)
  cases hk : playOk r c s
  · have HV : Hid (playT r c d s = ⟨#[]⟩) := hid (by unfold playT; rw [hk]; rfl)
    rw [hk] at HP
    clear hk
    go_enter Tryd.func15, Tryd.ntmps15
    go_wp2_with fail
    refine (HP.out _).mono ?_
    rintro e w1 ⟨rfl, hx⟩
    have hE := ((Ext.refl w).alloc (.cells #[.int .i64 r, .int .i64 c, .bool d, .string s] 37)).trans hx
    clear hx
    go_wp2_with fail
    go_returns
    exact ⟨by rw [HV.out]; rfl, hE⟩
  · have HT := hid (fun w' => l12Text_any r c d s w' hk)
    rw [hk] at HP
    clear hk
    go_enter Tryd.func15, Tryd.ntmps15
    go_wp2_with fail
    refine (HP.out _).mono ?_
    rintro e w1 ⟨rfl, hx⟩
    have hE := ((Ext.refl w).alloc (.cells #[.int .i64 r, .int .i64 c, .bool d, .string s] 37)).trans hx
    have b0 := hx.cell (b := w.heap.size) (o := 0) (v := .int .i64 r) (by simp)
    have b1 := hx.cell (b := w.heap.size) (o := 1) (v := .int .i64 c) (by simp)
    have b2 := hx.cell (b := w.heap.size) (o := 2) (v := .bool d) (by simp)
    have b3 := hx.cell (b := w.heap.size) (o := 3) (v := .string s) (by simp)
    clear hx
    go_wp2_with fail
    refine (HT.out _).mono ?_
    rintro e w2 ⟨rfl, hx⟩
    have hE2 := hE.trans hx
    clear hx b0 b1 b2 b3
    go_wp2_with fail
    go_returns
    exact ⟨rfl, hE2⟩
set_option maxRecDepth 100000 in
set_option maxHeartbeats 4000000 in
theorem PlayText_any (r c : Int) (d : Bool) (s : ByteArray) (w : World) (hs : s.size ≤ 1048576) (hT : Tabs w) : Calls Tryd.prog 17 #[playV r c d s] w (Ret (.string (playT r c d s)) w) := by
  have HM := hid (fun w' (x : Ext w w') => isMain_any s w' hs (hT.ext x))
  have HX := hid (fun w' => within_any r 0 14 w')
  have HY := hid (fun w' => within_any c 0 14 w')
  have H : Hid (playOk r c s = (inB r 0 14 && (inB c 0 14 && mainB s))) := hid rfl
  have HV : Hid (playOk r c s = false → playT r c d s = ⟨#[]⟩) := hid (fun hk => by unfold playT; rw [hk]; rfl)
  have HE0 := hid ((Ext.refl w).alloc (.cells #[.int .i64 r, .int .i64 c, .bool d, .string s] 37))
  clear hT
  cases hx : inB r 0 14
  · rw [hx] at HX
    have HZ := hid (HV.out (by rw [H.out, hx]; rfl))
    clear hx H HV
    go_enter Tryd.func17, Tryd.ntmps17
    go_wp2_with fail
    refine (HX.out _).mono ?_
    rintro e w1 ⟨rfl, rfl⟩
    go_wp2_with fail
    go_returns
    exact ⟨by rw [HZ.out]; rfl, HE0.out⟩
  cases hy : inB c 0 14
  · rw [hx] at HX
    rw [hy] at HY
    have HZ := hid (HV.out (by rw [H.out, hx, hy]; rfl))
    clear hx hy H HV
    go_enter Tryd.func17, Tryd.ntmps17
    go_wp2_with fail
    refine (HX.out _).mono ?_
    rintro e w1 ⟨rfl, rfl⟩
    go_wp2_with fail
    refine (HY.out _).mono ?_
    rintro e w1 ⟨rfl, rfl⟩
    go_wp2_with fail
    go_returns
    exact ⟨by rw [HZ.out]; rfl, HE0.out⟩
  cases hz : mainB s
  · rw [hx] at HX
    rw [hy] at HY
    rw [hz] at HM
    have HZ := hid (HV.out (by rw [H.out, hx, hy, hz]; rfl))
    clear hx hy hz H HV
    go_enter Tryd.func17, Tryd.ntmps17
    go_wp2_with fail
    refine (HX.out _).mono ?_
    rintro e w1 ⟨rfl, rfl⟩
    go_wp2_with fail
    refine (HY.out _).mono ?_
    rintro e w1 ⟨rfl, rfl⟩
    go_wp2_with fail
    refine (HM.out _ HE0.out).mono ?_
    rintro e w2 ⟨rfl, hx⟩
    have hE := HE0.out.trans hx
    clear hx
    go_wp2_with fail
    go_returns
    exact ⟨by rw [HZ.out]; rfl, hE⟩
  · have hok : playOk r c s = true := by rw [H.out, hx, hy, hz]; rfl
    obtain ⟨⟨r0, r1⟩, ⟨c0, c1⟩, hs12⟩ := playOk_true hok
    have HTT : Hid (if d then playT r c d s = colS c ++ decS (r + 1).toNat ++ ⟨#[32]⟩ ++ s else playT r c d s = decS (r + 1).toNat ++ colS c ++ ⟨#[32]⟩ ++ s) := hid (by unfold playT; rw [if_pos hok]; cases d <;> simp)
    have HD := hid (Decimal_any (r + 1).toNat (by omega))
    have HZs := decS_size (r + 1).toNat (by omega)
    rw [show (((r + 1).toNat : Nat) : Int) = r + 1 by omega] at HD
    have henc := col_enc c c0 c1
    obtain ⟨D, hD⟩ : ∃ D, decS (r + 1).toNat = D := ⟨_, rfl⟩
    obtain ⟨K, hK⟩ : ∃ K, colS c = K := ⟨_, rfl⟩
    have hKs : K.size = 1 := by rw [← hK]; rfl
    rw [hD] at HD HZs HTT
    rw [hK] at HTT henc
    obtain ⟨z, hzz⟩ : ∃ z, 97 + c = z := ⟨_, rfl⟩
    have HZZ := hid hzz
    rw [hzz] at henc
    have hz0 : 97 ≤ z ∧ z ≤ 111 := by omega
    obtain ⟨hz1, hz2⟩ := hz0
    have wj : IntKind.i64.wrap z = z := by simp [IntKind.wrap, IntKind.bits, IntKind.signed]; omega
    have wr1 : IntKind.i64.wrap (r + 1) = r + 1 := by simp [IntKind.wrap, IntKind.bits, IntKind.signed]; omega
    have wi : IntKind.i32.wrap z = z := by simp [IntKind.wrap, IntKind.bits, IntKind.signed]; omega
    rw [hx] at HX
    rw [hy] at HY
    rw [hz] at HM
    have hn1 : ¬ 9223372036854775807 < K.size + D.size := by omega
    have hn2 : ¬ 9223372036854775807 < K.size + D.size + 1 := by omega
    have hn3 : ¬ 9223372036854775807 < K.size + D.size + 1 + s.size := by omega
    have hn4 : ¬ 9223372036854775807 < D.size + K.size := by omega
    have hn5 : ¬ 9223372036854775807 < D.size + K.size + 1 := by omega
    have hn6 : ¬ 9223372036854775807 < D.size + K.size + 1 + s.size := by omega
    clear hx hy hz H HV hok hD hK hKs
    go_enter Tryd.func17, Tryd.ntmps17
    go_wp2_with fail
    refine (HX.out _).mono ?_
    rintro e w1 ⟨rfl, rfl⟩
    go_wp2_with fail
    refine (HY.out _).mono ?_
    rintro e w1 ⟨rfl, rfl⟩
    go_wp2_with fail
    refine (HM.out _ HE0.out).mono ?_
    rintro e w2 ⟨rfl, hx⟩
    have hE := HE0.out.trans hx
    have b0 := hx.cell (b := w.heap.size) (o := 0) (v := .int .i64 r) (by simp)
    have b1 := hx.cell (b := w.heap.size) (o := 1) (v := .int .i64 c) (by simp)
    have b2 := hx.cell (b := w.heap.size) (o := 2) (v := .bool d) (by simp)
    have b3 := hx.cell (b := w.heap.size) (o := 3) (v := .string s) (by simp)
    clear hx
    go_wp2_with fail
    refine wp_region_flow_at (C := Ext) 11 [fun v _ => v = .pointer (some ⟨w.heap.size, 0, none⟩), fun v _ => v = .int .i64 r, fun v _ => v = .int .i64 (r + 1), fun v _ => v = .string D, fun v _ => v = .pointer (some ⟨w.heap.size, 1, none⟩), fun v _ => v = .int .i64 c, fun v _ => v = .int .i64 z, fun v _ => v = .int .i32 z, fun v _ => v = .string K, fun v _ => v = .string D, fun v _ => v = .string K]
      [[(1, none)], [(21, some 0)], [(22, some 1)], [(23, some 2)], [(1, none)], [(25, some 4)], [(26, some 5)], [(27, some 6)], [(28, some 7)], [(24, some 3)], [(29, some 8)]] (by kernel_rfl) (by kernel_rfl) Ext.refl (fun _ _ _ => Ext.trans) ?_ ?_ ?_
    · intro F hF
      simp only [List.mem_cons, List.not_mem_nil, or_false] at hF
      rcases hF with rfl | rfl | rfl | rfl | rfl | rfl | rfl | rfl | rfl | rfl | rfl <;> exact fun _ _ _ h _ => h
    · refine ⟨?_, ?_, ?_, ?_, ?_, ?_, ?_, ?_, ?_, ?_, ?_, trivial⟩
      · rintro ρ w1 hw hcst hfn hk
        clear hw
        simp only [known, List.getD_cons_zero, List.getD_cons_succ, Nat.reduceAdd] at hk
        simp only [List.getD_cons_zero, List.getD_cons_succ, Nat.reduceAdd, flowAt]
        go_simp
        exact ⟨Ext.refl _, by first | rfl | trivial⟩
      · rintro ρ w1 hw hcst hfn hk
        have c0 := hw.cell (b := w.heap.size) (o := 0) (v := .int .i64 r) (by first | (simp [*]; done) | (simp [*, go_sem]; done) | go_cell)
        clear hw
        simp only [known, List.getD_cons_zero, List.getD_cons_succ, Nat.reduceAdd] at hk
        simp only [List.getD_cons_zero, List.getD_cons_succ, Nat.reduceAdd, flowAt]
        go_simp
        exact ⟨Ext.refl _, by first | rfl | trivial⟩
      · rintro ρ w1 hw hcst hfn hk
        clear hw
        simp only [known, List.getD_cons_zero, List.getD_cons_succ, Nat.reduceAdd] at hk
        simp only [List.getD_cons_zero, List.getD_cons_succ, Nat.reduceAdd, flowAt]
        go_simp
        exact ⟨Ext.refl _, by first | rfl | trivial⟩
      · rintro ρ w1 hw hcst hfn hk
        simp only [known, List.getD_cons_zero, List.getD_cons_succ, Nat.reduceAdd] at hk
        simp only [List.getD_cons_zero, List.getD_cons_succ, Nat.reduceAdd, flowAt]
        go_simp
        exact flow_same (HD.out _)
      · rintro ρ w1 hw hcst hfn hk
        clear hw
        simp only [known, List.getD_cons_zero, List.getD_cons_succ, Nat.reduceAdd] at hk
        simp only [List.getD_cons_zero, List.getD_cons_succ, Nat.reduceAdd, flowAt]
        go_simp
        exact ⟨Ext.refl _, by first | rfl | trivial⟩
      · rintro ρ w1 hw hcst hfn hk
        have c0 := hw.cell (b := w.heap.size) (o := 1) (v := .int .i64 c) (by first | (simp [*]; done) | (simp [*, go_sem]; done) | go_cell)
        clear hw
        simp only [known, List.getD_cons_zero, List.getD_cons_succ, Nat.reduceAdd] at hk
        simp only [List.getD_cons_zero, List.getD_cons_succ, Nat.reduceAdd, flowAt]
        go_simp
        exact ⟨Ext.refl _, by first | rfl | trivial⟩
      · rintro ρ w1 hw hcst hfn hk
        clear hw
        simp only [known, List.getD_cons_zero, List.getD_cons_succ, Nat.reduceAdd] at hk
        simp only [List.getD_cons_zero, List.getD_cons_succ, Nat.reduceAdd, flowAt]
        go_simp
        exact ⟨Ext.refl _, by first | rfl | trivial⟩
      · rintro ρ w1 hw hcst hfn hk
        clear hw
        simp only [known, List.getD_cons_zero, List.getD_cons_succ, Nat.reduceAdd] at hk
        simp only [List.getD_cons_zero, List.getD_cons_succ, Nat.reduceAdd, flowAt]
        go_simp
        exact ⟨Ext.refl _, by first | rfl | trivial⟩
      · rintro ρ w1 hw hcst hfn hk
        clear hw
        simp only [known, List.getD_cons_zero, List.getD_cons_succ, Nat.reduceAdd] at hk
        simp only [List.getD_cons_zero, List.getD_cons_succ, Nat.reduceAdd, flowAt]
        go_simp
        exact ⟨Ext.refl _, by first | rfl | trivial⟩
      · rintro ρ w1 hw hcst hfn hk
        clear hw
        simp only [known, List.getD_cons_zero, List.getD_cons_succ, Nat.reduceAdd] at hk
        simp only [List.getD_cons_zero, List.getD_cons_succ, Nat.reduceAdd, flowAt]
        go_simp
        exact ⟨Ext.refl _, by first | rfl | trivial⟩
      · rintro ρ w1 hw hcst hfn hk
        clear hw
        simp only [known, List.getD_cons_zero, List.getD_cons_succ, Nat.reduceAdd] at hk
        simp only [List.getD_cons_zero, List.getD_cons_succ, Nat.reduceAdd, flowAt]
        go_simp
        exact ⟨Ext.refl _, by first | rfl | trivial⟩
    intro vs w1 hw hf
    simp only [flowFacts, Nat.reduceAdd] at hf
    obtain ⟨e0, e1, e2, e3, e4, e5, e6, e7, e8, e9, e10, -⟩ := hf
    simp only [List.take_succ_cons, List.take_zero, List.drop_succ_cons, List.drop_zero, putAll, Act.put, Nat.reduceAdd, List.setIfInBounds_toArray, List.set_cons_zero, List.set_cons_succ, e0, e1, e2, e3, e4, e5, e6, e7, e8, e9, e10]
    clear e0 e1 e2 e3 e4 e5 e6 e7 e8 e9 e10
    have hxx := (Ext.refl _).drew.trans hw
    replace hE := hE.trans hxx
    replace b2 := hxx.cell b2
    replace b3 := hxx.cell b3
    clear hxx hw b0 b1
    cases d
    all_goals
      have HZ2 := HTT.out
      simp only [if_true, if_false, Bool.false_eq_true] at HZ2
      have HZ3 := hid HZ2
      clear HZ2
      go_wp2_with fail
      go_returns
      exact ⟨by rw [HZ3.out]; rfl, hE⟩
end Go.Proofs.YtdecakimhjieeaaDoor
