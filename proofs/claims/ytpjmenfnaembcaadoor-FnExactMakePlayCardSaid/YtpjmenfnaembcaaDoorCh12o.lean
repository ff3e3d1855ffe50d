/- MakePlay, by the reference. Conditions stand at each. -/
import Derived.Test.YtpjmenfnaembcaaDoorCh12n
namespace Go.Proofs.YtpjmenfnaembcaaDoor
set_option linter.unusedVariables false
set_option linter.unusedSimpArgs false
open Go Go.RowKit
set_option maxRecDepth 100000 in
set_option maxHeartbeats 2000000 in
theorem l12Make_any (b o : Nat) (N : Nat) (p cs : ByteArray) (r c : Int) (d : Bool) (s : ByteArray) (w : World) (hB : BdAt w b o N p cs) (h1 : 5 ≤ N) (h2 : N ≤ 15) (hp : p.size = N * N) (hc : cs.size = N * N) (hin : inRC N r c = true) (hl : (if d then r else c) + (s.size : Int) ≤ N) :
    Calls Tryd.prog 32 #[.pointer (some ⟨b, o, none⟩), playV r c d s] w (Ret (boardV N p (layL N cs r c d s s.size)) w) := by
  have fin : inRC N (flatR d r c) (flatC d r c) = true := by rw [flat_in]; exact hin
  have flim : flatC d r c + s.size ≤ N := by rw [flat_lim]; exact hl
  have HFS := flatS_size d N cs hc
  have HFP := flatS_size d N p hp
  have HPL := hid (fun w h => l12Flat_any b o N p cs r c d s w h hp hc h1 h2)
  have HB0 := hid hB
  have hbl := World.block_lt_of_cell? _ _ hB.1
  -- what the turn back makes of it
  have HT : Hid (d = true → turnS N (flatS d N p) = p ∧ turnS N (layL N (flatS d N cs) (flatR d r c) (flatC d r c) false s s.size) = layL N cs r c d s s.size) := hid (fun e => by
    subst e
    obtain ⟨a1, a2, a3, a4⟩ := inRC_true hin
    obtain ⟨R, rfl⟩ := Int.eq_ofNat_of_zero_le a1
    obtain ⟨C, rfl⟩ := Int.eq_ofNat_of_zero_le a3
    exact ⟨turn_turn N p hp, turn_lay N cs R C s hc (by omega) s.size (by simp at hl; omega)⟩)
  have HF : Hid (d = false → flatS d N p = p ∧ layL N (flatS d N cs) (flatR d r c) (flatC d r c) false s s.size = layL N cs r c d s s.size) := hid (fun e => by subst e; exact ⟨rfl, rfl⟩)
  unfold flatV at HPL
  obtain ⟨P2, hP2⟩ : ∃ P2, flatS d N p = P2 := ⟨_, rfl⟩
  obtain ⟨C2, hC2⟩ : ∃ C2, flatS d N cs = C2 := ⟨_, rfl⟩
  obtain ⟨R1, hR1⟩ : ∃ R1, flatR d r c = R1 := ⟨_, rfl⟩
  obtain ⟨C1, hC1⟩ : ∃ C1, flatC d r c = C1 := ⟨_, rfl⟩
  rw [hP2, hC2, hR1, hC1] at HPL HT HF
  rw [hR1, hC1] at fin
  rw [hC1] at flim
  rw [hC2] at HFS
  rw [hP2] at HFP
  clear hP2 hC2 hR1 hC1 hB hin hl
  obtain ⟨f1, f2, f3, f4⟩ := inRC_true fin
  have hs15 : s.size ≤ 15 := by omega
  have HIX := hid (fun (i : Nat) (hi : i < s.size) => sq_index (by omega : (5 : Int) ≤ N) (by omega) (show (C2.size : Int) = N * N by rw [HFS, Int.natCast_mul]) (sq_in (d := false) fin flim i hi))
  have HST : Hid (∀ (k q : Nat) (hk : k < s.size), (R1 * N + (C1 + k)) = (q : Int) → (layL N C2 R1 C1 false s (k + 1)).data.toList = (layL N C2 R1 C1 false s k).data.toList.set q s[k]) := hid (fun k q hk e => by
    rw [layL, show (sqR R1 false k * N + sqC C1 false k) = R1 * N + (C1 + k) from rfl, e, ← bAt_eq s k hk]
    simp [setS])
  have HLS : Hid (∀ k, (layL N C2 R1 C1 false s k).data.toList.length = C2.size) := hid (fun k => by
    have := layL_size N C2 R1 C1 false s k
    simpa using this)
  have HZ : Hid (0 < C2.size) := hid (by have : 5 * 5 ≤ N * N := Nat.mul_le_mul h1 h1; omega)
  have hcs : C2.size ≤ 225 := by have : N * N ≤ 15 * 15 := Nat.mul_le_mul h2 h2; omega
  have HS2 := hid HFS
  have HP2 := hid HFP
  clear HFS HFP hp hc
  go_enter Tryd.func32, Tryd.ntmps32
  go_wp2_with fail
  refine (HPL.out _ (HB0.out.ext (((Ext.refl w).alloc _).alloc _))).mono ?_
  rintro e wa ⟨rfl, hx⟩
  have hE := (((Ext.refl w).alloc _).alloc _).trans hx
  have HD0 := hid (hx.cell (b := w.heap.size) (o := 2) (v := .bool d) (by go_cell))
  have HU0 := hid (hx.cell (b := w.heap.size + 1) (o := 0) (v := .int .i64 0) (by go_cell))
  have HU1 := hid (hx.cell (b := w.heap.size + 1) (o := 1) (v := .string ⟨#[]⟩) (by go_cell))
  have HU2 := hid (hx.cell (b := w.heap.size + 1) (o := 2) (v := .string ⟨#[]⟩) (by go_cell))
  have HUF : Hid (∀ j, wa.frozen? ⟨w.heap.size + 1, j, none⟩ = false) := hid (fun j => by rw [hx.cells.2 _ _ (by simp only [World.size_alloc]; omega)]; go_cell)
  have hz1 := hx.size
  simp only [World.size_alloc] at hz1
  clear hx HPL
  go_wp2_with (refine wpList_bytes rfl _ 9 64 rfl Tryd.underlying9 Tryd.underlying64 Tryd.underlying5 rfl ?_
               intro cp w2 hwr hcap hx hsz1
               have HW := hid hwr
               have HX := hid hx
               have HSZ := hid hsz1
               have e3 := hx.cell (b := wa.heap.size + 1) (o := 3) (v := .string s) (by go_cell)
               clear hwr hx hcap hsz1)
  have hsz2 : w2.heap.size ≤ wa.heap.size + 3 ∧ wa.heap.size + 3 ≤ w2.heap.size := by
    have := HSZ.out
    simp only [World.size_alloc] at this
    omega
  have HWc : Hid (Wr w2 (wa.heap.size + 2) (bytesV C2.data.toList)) := hid (by
    have := HW.out
    simp only [World.size_alloc] at this
    exact this)
  have hx := HX.out
  have HX1 : Hid (Ext wa w2) := hid ((((Ext.refl wa).alloc _).alloc _).trans hx)
  have HC0 := hid (hx.cell (b := wa.heap.size) (o := 0) (v := .int .i64 N) (by go_cell))
  have HC1 := hid (hx.cell (b := wa.heap.size) (o := 1) (v := .string P2) (by go_cell))
  have HC2 := hid (hx.cell (b := wa.heap.size) (o := 2) (v := .string C2) (by go_cell))
  have HE0 := hid (hx.cell (b := wa.heap.size + 1) (o := 0) (v := .int .i64 R1) (by go_cell))
  have HE1 := hid (hx.cell (b := wa.heap.size + 1) (o := 1) (v := .int .i64 C1) (by go_cell))
  have HE2 := hid (hx.cell (b := wa.heap.size + 1) (o := 2) (v := .bool false) (by go_cell))
  have HE3 := hid e3
  clear hx HW HX HSZ
  go_wp2_with fail
  go_loopw [8] (fun i wr => ∃ k : Nat, k ≤ s.size ∧ i = .int .i64 k ∧ Hid (Wr wr (wa.heap.size + 2) (bytesV (layL N C2 R1 C1 false s k).data.toList)) ∧ Hid (Exc (wa.heap.size + 2) w2 wr)) (fun i _ => s.size - (intOf i).toNat)
  case atStart => exact ⟨0, by omega, rfl, HWc, hid (Exc.refl _ _)⟩
  case round =>
    clear HWc
    obtain ⟨k, hk, rfl, hwr, hexc⟩ := hrel
    have hsz := hexc.out.size
    have e3 := hexc.out.cell HE3.out (by omega)
    by_cases hlt : k < s.size
    · have c0 := hexc.out.cell HC0.out (by omega)
      have c1 := hexc.out.cell HC1.out (by omega)
      have c2 := hexc.out.cell HC2.out (by omega)
      have e0 := hexc.out.cell HE0.out (by omega)
      have e1 := hexc.out.cell HE1.out (by omega)
      have e2 := hexc.out.cell HE2.out (by omega)
      have i1 : 0 ≤ R1 * (N : Int) := (HIX.out k hlt).1
      have i2 : R1 * (N : Int) ≤ 210 := (HIX.out k hlt).2.1
      have i4 : R1 * (N : Int) + (C1 + (k : Int)) < C2.size := (HIX.out k hlt).2.2.2.1
      obtain ⟨Z, hZ⟩ : ∃ Z, R1 * (N : Int) = Z := ⟨_, rfl⟩
      rw [hZ] at i1 i2 i4
      obtain ⟨q, hq⟩ : ∃ q : Nat, Z + (C1 + (k : Int)) = (q : Int) := ⟨(Z + (C1 + (k : Int))).toNat, by omega⟩
      have HST2 := hid (HST.out k q hlt (by rw [hZ]; exact hq))
      have hqc : q < C2.size := by omega
      obtain ⟨uu, huu⟩ : ∃ uu, s[k] = uu := ⟨_, rfl⟩
      rw [huu] at HST2
      have q1 : IntKind.i64.wrap (R1 * (N : Int)) = Z := by rw [hZ]; exact IntWalk.i64_in _ (by omega)
      have q2 : IntKind.i64.wrap (Z + C1) = Z + C1 := IntWalk.i64_in _ (by omega)
      have q3 : IntKind.i64.wrap (Z + C1 + (k : Int)) = (q : Int) := by rw [IntWalk.i64_in _ (by omega)]; omega
      have HWk := hid hwr.out
      clear hZ hq hwr i4
      go_wp2_with fail
      refine wp_region_flow_at (C := Ext) 16 [fun v _ => v = .slice (some ⟨wa.heap.size + 2, 0, none⟩) C2.size cp, fun v _ => v = .pointer (some ⟨(wa.heap.size + 1), 0, none⟩), fun v _ => v = .int .i64 R1, fun v _ => v = .pointer (some ⟨wa.heap.size, 0, none⟩), fun v _ => v = .int .i64 (N : Int), fun v _ => v = .int .i64 Z, fun v _ => v = .pointer (some ⟨(wa.heap.size + 1), 1, none⟩), fun v _ => v = .int .i64 C1, fun v _ => v = .int .i64 (Z + C1), fun v _ => v = .int .i64 (k : Int), fun v _ => v = .int .i64 (q : Int), fun v _ => v = .pointer (some ⟨(wa.heap.size + 1), 3, none⟩), fun v _ => v = .string s, fun v _ => v = .int .i64 (k : Int), fun v _ => v = .int .u8 (uu.toNat : Int), fun v _ => v = .pointer (some ⟨(wa.heap.size + 2), q, none⟩)]
        [[(7, none)], [(6, none)], [(27, some 1)], [(5, none)], [(29, some 3)], [(28, some 2), (30, some 4)], [(6, none)], [(32, some 6)], [(31, some 5), (33, some 7)], [(8, none)], [(34, some 8), (35, some 9)], [(6, none)], [(37, some 11)], [(8, none)], [(38, some 12), (39, some 13)], [(26, some 0), (36, some 10)]] (by kernel_rfl) (by kernel_rfl) Ext.refl (fun _ _ _ => Ext.trans) ?_ ?_ ?_
      · intro F hF
        simp only [List.mem_cons, List.not_mem_nil, or_false] at hF
        rcases hF with rfl | rfl | rfl | rfl | rfl | rfl | rfl | rfl | rfl | rfl | rfl | rfl | rfl | rfl | rfl | rfl <;> exact fun _ _ _ h _ => h
      · refine ⟨?_, ?_, ?_, ?_, ?_, ?_, ?_, ?_, ?_, ?_, ?_, ?_, ?_, ?_, ?_, ?_, trivial⟩
        · rintro ρ w1 hw hcst hfn hk
          clear hw
          simp only [known, List.getD_cons_zero, List.getD_cons_succ, Nat.reduceAdd] at hk
          simp only [List.getD_cons_zero, List.getD_cons_succ, Nat.reduceAdd, flowAt]
          go_simp
          exact ⟨Ext.refl _, rfl⟩
        · rintro ρ w1 hw hcst hfn hk
          clear hw
          simp only [known, List.getD_cons_zero, List.getD_cons_succ, Nat.reduceAdd] at hk
          simp only [List.getD_cons_zero, List.getD_cons_succ, Nat.reduceAdd, flowAt]
          go_simp
          exact ⟨Ext.refl _, rfl⟩
        · rintro ρ w1 hw hcst hfn hk
          have c0 := hw.cell (b := (wa.heap.size + 1)) (o := 0) (v := .int .i64 R1) (by first | (simp [*]; done) | (simp [*, go_sem]; done) | go_cell)
          clear hw
          simp only [known, List.getD_cons_zero, List.getD_cons_succ, Nat.reduceAdd] at hk
          simp only [List.getD_cons_zero, List.getD_cons_succ, Nat.reduceAdd, flowAt]
          go_simp
          exact ⟨Ext.refl _, rfl⟩
        · rintro ρ w1 hw hcst hfn hk
          clear hw
          simp only [known, List.getD_cons_zero, List.getD_cons_succ, Nat.reduceAdd] at hk
          simp only [List.getD_cons_zero, List.getD_cons_succ, Nat.reduceAdd, flowAt]
          go_simp
          exact ⟨Ext.refl _, rfl⟩
        · rintro ρ w1 hw hcst hfn hk
          have c0 := hw.cell (b := wa.heap.size) (o := 0) (v := .int .i64 (N : Int)) (by first | (simp [*]; done) | (simp [*, go_sem]; done) | go_cell)
          clear hw
          simp only [known, List.getD_cons_zero, List.getD_cons_succ, Nat.reduceAdd] at hk
          simp only [List.getD_cons_zero, List.getD_cons_succ, Nat.reduceAdd, flowAt]
          go_simp
          exact ⟨Ext.refl _, rfl⟩
        · rintro ρ w1 hw hcst hfn hk
          simp only [known, List.getD_cons_zero, List.getD_cons_succ, Nat.reduceAdd] at hk
          simp only [List.getD_cons_zero, List.getD_cons_succ, Nat.reduceAdd, flowAt]
          go_simp
          exact ⟨Ext.refl _, by first | rfl | rw [q1]⟩
        · rintro ρ w1 hw hcst hfn hk
          clear hw
          simp only [known, List.getD_cons_zero, List.getD_cons_succ, Nat.reduceAdd] at hk
          simp only [List.getD_cons_zero, List.getD_cons_succ, Nat.reduceAdd, flowAt]
          go_simp
          exact ⟨Ext.refl _, rfl⟩
        · rintro ρ w1 hw hcst hfn hk
          have c0 := hw.cell (b := (wa.heap.size + 1)) (o := 1) (v := .int .i64 C1) (by first | (simp [*]; done) | (simp [*, go_sem]; done) | go_cell)
          clear hw
          simp only [known, List.getD_cons_zero, List.getD_cons_succ, Nat.reduceAdd] at hk
          simp only [List.getD_cons_zero, List.getD_cons_succ, Nat.reduceAdd, flowAt]
          go_simp
          exact ⟨Ext.refl _, rfl⟩
        · rintro ρ w1 hw hcst hfn hk
          simp only [known, List.getD_cons_zero, List.getD_cons_succ, Nat.reduceAdd] at hk
          simp only [List.getD_cons_zero, List.getD_cons_succ, Nat.reduceAdd, flowAt]
          go_simp
          exact ⟨Ext.refl _, by first | rfl | rw [q2]⟩
        · rintro ρ w1 hw hcst hfn hk
          clear hw
          simp only [known, List.getD_cons_zero, List.getD_cons_succ, Nat.reduceAdd] at hk
          simp only [List.getD_cons_zero, List.getD_cons_succ, Nat.reduceAdd, flowAt]
          go_simp
          exact ⟨Ext.refl _, rfl⟩
        · rintro ρ w1 hw hcst hfn hk
          simp only [known, List.getD_cons_zero, List.getD_cons_succ, Nat.reduceAdd] at hk
          simp only [List.getD_cons_zero, List.getD_cons_succ, Nat.reduceAdd, flowAt]
          go_simp
          exact ⟨Ext.refl _, by first | rfl | rw [q3]⟩
        · rintro ρ w1 hw hcst hfn hk
          clear hw
          simp only [known, List.getD_cons_zero, List.getD_cons_succ, Nat.reduceAdd] at hk
          simp only [List.getD_cons_zero, List.getD_cons_succ, Nat.reduceAdd, flowAt]
          go_simp
          exact ⟨Ext.refl _, rfl⟩
        · rintro ρ w1 hw hcst hfn hk
          have c0 := hw.cell (b := (wa.heap.size + 1)) (o := 3) (v := .string s) (by first | (simp [*]; done) | (simp [*, go_sem]; done) | go_cell)
          clear hw
          simp only [known, List.getD_cons_zero, List.getD_cons_succ, Nat.reduceAdd] at hk
          simp only [List.getD_cons_zero, List.getD_cons_succ, Nat.reduceAdd, flowAt]
          go_simp
          exact ⟨Ext.refl _, rfl⟩
        · rintro ρ w1 hw hcst hfn hk
          clear hw
          simp only [known, List.getD_cons_zero, List.getD_cons_succ, Nat.reduceAdd] at hk
          simp only [List.getD_cons_zero, List.getD_cons_succ, Nat.reduceAdd, flowAt]
          go_simp
          exact ⟨Ext.refl _, rfl⟩
        · rintro ρ w1 hw hcst hfn hk
          simp only [known, List.getD_cons_zero, List.getD_cons_succ, Nat.reduceAdd] at hk
          simp only [List.getD_cons_zero, List.getD_cons_succ, Nat.reduceAdd, flowAt]
          go_simp
          exact ⟨Ext.refl _, by first | rfl | rw [huu]⟩
        · rintro ρ w1 hw hcst hfn hk
          simp only [known, List.getD_cons_zero, List.getD_cons_succ, Nat.reduceAdd] at hk
          simp only [List.getD_cons_zero, List.getD_cons_succ, Nat.reduceAdd, flowAt]
          go_simp
          exact ⟨Ext.refl _, by first | rfl | simp⟩
      intro vs w1 hw hf
      simp only [flowFacts, Nat.reduceAdd] at hf
      obtain ⟨e0, e1, e2, e3, e4, e5, e6, e7, e8, e9, e10, e11, e12, e13, e14, e15, -⟩ := hf
      simp only [List.take_succ_cons, List.take_zero, List.drop_succ_cons, List.drop_zero, putAll, Act.put, Nat.reduceAdd, List.setIfInBounds_toArray, List.set_cons_zero, List.set_cons_succ, e0, e1, e2, e3, e4, e5, e6, e7, e8, e9, e10, e11, e12, e13, e14, e15]
      clear e0 e1 e2 e3 e4 e5 e6 e7 e8 e9 e10 e11 e12 e13 e14 e15
      have hx4 := (Ext.refl _).drew.trans hw
      have HW5 := hid (HWk.out.ext hx4)
      obtain ⟨g1, g2⟩ := HW5.out.fit q (by rw [bytesV_length, HLS.out]; exact hqc)
      have HW6 := hid (HW5.out.set q (by rw [bytesV_length, HLS.out]; exact hqc) (.int .u8 (uu.toNat : Int)))
      rw [bytesV_put, ← HST2.out] at HW6
      obtain ⟨f, hf⟩ : ∃ f, (bytesV (layL N C2 R1 C1 false s k).data.toList)[q]'(by rw [bytesV_length, HLS.out]; exact hqc) = f := ⟨_, rfl⟩
      rw [hf] at g1
      have HE4 := hid ((hexc.out.ext hx4).setCell q (.int .u8 (uu.toNat : Int)))
      clear hf hw hx4 hexc c0 c1 c2 e0 e1 e2 e3 q1 q2 q3 HW5 HWk
      go_wp2_with fail
      go_roundw
      case rel => exact ⟨k + 1, by omega, by go_num, HW6, HE4⟩
      case measure => simp [intOf]; omega
    · obtain rfl : k = s.size := by omega
      have c0 := hexc.out.cell HC0.out (by omega)
      have c1 := hexc.out.cell HC1.out (by omega)
      have d2 := hexc.out.cell (HX1.out.cell HD0.out) (by omega)
      have u0 := hexc.out.cell (HX1.out.cell HU0.out) (by omega)
      have u1 := hexc.out.cell (HX1.out.cell HU1.out) (by omega)
      have u2 := hexc.out.cell (HX1.out.cell HU2.out) (by omega)
      have uf : ∀ j, wr.frozen? ⟨w.heap.size + 1, j, none⟩ = false := fun j => by rw [hexc.out.frozen j (by omega) (by omega), HX1.out.cells.2 _ _ (by omega)]; exact HUF.out j
      have hEr : Ext w wr := (Exb.of_exc (lo := wa.heap.size + 2) (hi := wa.heap.size + 3) hexc.out (Nat.le_refl _) (by omega)).ext0 (hE.trans HX1.out) (by omega)
      have HBB := hid (show (⟨(layL N C2 R1 C1 false s s.size).data.toList.toArray⟩ : ByteArray) = layL N C2 R1 C1 false s s.size by simp)
      have HR := hid hwr.out.rd
      have HL := hid (HLS.out s.size).symm
      have HXS : Hid ((layL N C2 R1 C1 false s s.size).size = N * N) := hid (by rw [layL_size]; exact HS2.out)
      obtain ⟨L, hL⟩ : ∃ L, (layL N C2 R1 C1 false s s.size).data.toList = L := ⟨_, rfl⟩
      obtain ⟨X, hX⟩ : ∃ X, layL N C2 R1 C1 false s s.size = X := ⟨_, rfl⟩
      rw [hL] at HBB HR HL
      rw [hX] at HBB HT HF HXS
      have hzw := hEr.size
      have lt0 := World.block_lt_of_cell? _ _ u0
      have lt1 := World.block_lt_of_cell? _ _ c0
      have ltd := World.block_lt_of_cell? _ _ d2
      clear hL hX hwr hexc HLS HST HIX
      cases d
      · obtain ⟨y1, y2⟩ := HF.out rfl
        have HY := hid (And.intro y1 y2)
        clear y1 y2
        go_wp2_with (refine wpList_str rfl _ 64 9 rfl Tryd.underlying64 Tryd.underlying5 Tryd.underlying9 rfl (l := L) HL.out HR.out ?_; rw [HBB.out])
        refine bodyPost_ret (v := boardV N P2 X) (by simp [results, Tryd.results32, go_sem, u0, u1, u2, uf, boardV, lt0]) rfl ⟨by rw [HY.out.1, HY.out.2], (((hEr.setCell (by first | (simp; done) | (simp only []; omega) | (simp; omega)) _).setCell (by first | (simp; done) | (simp only []; omega) | (simp; omega)) _).setCell (by first | (simp; done) | (simp only []; omega) | (simp; omega)) _).alloc _⟩
      · obtain ⟨y1, y2⟩ := HT.out rfl
        have HY := hid (And.intro y1 y2)
        clear y1 y2
        have hbd : BdAt (wr.alloc (.cells #[.int .i64 (N : Int), .string P2, .string X] 29)) wr.heap.size 0 (N : Int) P2 X := ⟨by go_cell, by go_cell, by go_cell⟩
        have HBd := hid hbd
        clear hbd
        go_wp2_with (refine wpList_str rfl _ 64 9 rfl Tryd.underlying64 Tryd.underlying5 Tryd.underlying9 rfl (l := L) HL.out HR.out ?_; rw [HBB.out])
        refine (l11Transpose_any wr.heap.size 0 N P2 X _ HBd.out HP2.out HXS.out h1 h2).mono ?_
        rintro e wb ⟨rfl, hy⟩
        have hyy := ((Ext.refl wr).alloc _).trans hy
        replace u0 := hyy.cell u0
        replace u1 := hyy.cell u1
        replace u2 := hyy.cell u2
        replace uf : ∀ j, wb.frozen? ⟨w.heap.size + 1, j, none⟩ = false := fun j => by rw [hyy.cells.2 _ _ lt0]; exact uf j
        rw [HY.out.1, HY.out.2]
        unfold boardV
        go_wp2_with fail
        refine bodyPost_ret (v := boardV N p (layL N cs r c true s s.size)) (by simp [results, Tryd.results32, go_sem, u0, u1, u2, uf, boardV]) rfl ⟨rfl, (((hEr.trans hyy).setCell (by first | (simp; done) | (simp only []; omega) | (simp; omega)) _).setCell (by first | (simp; done) | (simp only []; omega) | (simp; omega)) _).setCell (by first | (simp; done) | (simp only []; omega) | (simp; omega)) _⟩
end Go.Proofs.YtpjmenfnaembcaaDoor
