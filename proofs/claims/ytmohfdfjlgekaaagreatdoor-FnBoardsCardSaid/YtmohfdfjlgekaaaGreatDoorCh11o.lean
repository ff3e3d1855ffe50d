/- Boards that are drawn and often bent, and places on them. Conditions: at most 2^39 choices so far. -/
import Derived.Test.YtmohfdfjlgekaaaGreatDoorCh11n
namespace Go.Proofs.YtmohfdfjlgekaaaGreatDoor
set_option linter.unusedVariables false
set_option linter.unusedSimpArgs false
open Go Go.RowKit
def DrC (v : Value) : Prop := ∃ n p c, -1000 ≤ n ∧ n ≤ 1000 ∧ ByteArray.size p ≤ 1000 ∧ ByteArray.size c ≤ 1000 ∧ v = boardV n p c
theorem Exc.setC {g : Nat} {w0 w : World} (h : Exc g w0 w) {b : Nat} (hb : w0.heap.size ≤ b) (j : Nat) (u : Value) : Exc g w0 (w.setCell ⟨b, j, none⟩ u) := by
  refine ⟨h.os, h.tape, h.output, Nat.le_trans h.size (by simp [World.setCell]), fun k hk hg => ?_⟩
  rw [← h.block k hk hg]
  exact ((Exc.refl b w).setCell j u).block k (Nat.lt_of_lt_of_le hk h.size) (by omega)
theorem Bsz.le {n : Int} {p c : ByteArray} (h : Bsz n p c) : p.size ≤ 225 ∧ c.size ≤ 225 ∧ 25 ≤ p.size ∧ 25 ≤ c.size := by
  obtain ⟨h1, h2, h3, h4⟩ := h
  have a := sq_le225 h1 h2
  have b : 5 * 5 ≤ n * n := Int.mul_le_mul h1 h1 (by omega) (by omega)
  omega
set_option maxHeartbeats 4000000 in
theorem l11Bent_any (g k : Nat) (w : World) (h : Src w g k) (hk : k ≤ 1099511610000) :
    Calls Tryz.prog 27 #[.pointer (some ⟨g, 0, none⟩)] w (Drew g k 50 (fun v _ => DrC v) w) := by
  have hg := h.lt
  have HS := hid h
  have hx0 : Ext w (w.alloc (.cells #[.int .i64 0, .string ⟨#[]⟩, .string ⟨#[]⟩] 25)) := (Ext.refl w).alloc _
  clear h
  go_enter Tryz.func27, Tryz.ntmps27
  go_wp2_with fail
  refine (l11Draw_any g k _ (HS.out.ext hx0) (by omega)).mono ?_
  rintro e w1 ⟨v, rfl, ⟨x, P, C, hz, rfl⟩, hE1, hS1⟩
  have BR1 := hid ((Bk.new w 25).exc hE1 (by omega))
  have HX1 := hid ((Exc.of_ext g hx0).trans hE1)
  have HS1 := hid hS1
  have hl1 := BR1.out.lt
  obtain ⟨s1, s2, s3, s4⟩ := hz.le
  have hx5 := hz.lo
  have hx15 := hz.hi
  obtain ⟨B, hB⟩ : ∃ B, w1.heap.size = B := ⟨_, rfl⟩
  have hBR : w.heap.size < B := by omega
  have hx1 : Ext w1 (w1.alloc (.cells #[.int .i64 x, .string P, .string C] 25)) := (Ext.refl w1).alloc _
  have BR2 := hid (BR1.out.ext hx1)
  have HX2 := hid (HX1.out.ext hx1)
  have HS2 := hid (HS1.out.ext hx1)
  have BB2 : Hid (Bk (w1.alloc (.cells #[.int .i64 x, .string P, .string C] 25)) B x P C) := hid (by subst hB; exact ⟨⟨by simp, by simp, by simp⟩, fun j => by simp⟩)
  clear hE1 hS1 hz hx0 hx1
  go_wp2_with fail
  refine (pick_any g (k + 40) 30 _ HS2.out (by omega)).mono ?_
  rintro e w2 ⟨v, rfl, ⟨c, hc0, hc1, rfl⟩, hE2, hS2⟩
  have BR3 := hid (BR2.out.exc hE2 (by omega))
  have BB3 := hid (BB2.out.exc hE2 (by omega))
  have HX3 := hid (HX2.out.trans hE2)
  have HS3 := hid hS2
  have hgB : g < B := by omega
  clear hE2 hS2 BR1 HX1 HS1 BR2 HX2 HS2 BB2 hB hl1 hc1
  by_cases e0 : c = 0
  · subst e0
    obtain ⟨⟨b0, b1, b2⟩, bf⟩ := BB3.out
    clear bf
    have q1 : IntKind.i64.wrap (x + 1) = x + 1 := IntWalk.i64_in _ (by omega)
    go_wp2_with fail
    refine (among_new g (k + 40 + 2) 3 [4, 16, x + 1] w2 HS3.out (by omega) rfl (by omega) (by omega)).mono ?_
    rintro e w3 ⟨v, rfl, ⟨y, hy, rfl⟩, hE3, hS3⟩
    have hy2 : 0 ≤ y ∧ y ≤ 16 := by simp at hy; omega
    obtain ⟨hy0, hy1⟩ := hy2
    have hx9 : Ext w2 (w2.alloc (.cells (([4, 16, x + 1] : List Int).map (Value.int .i64)).toArray 2)) := (Ext.refl w2).alloc _
    have BR4 := hid ((BR3.out.ext hx9).exc hE3 (by omega))
    have BB4 := hid ((BB3.out.ext hx9).exc hE3 (by omega))
    have HX4 := hid ((HX3.out.ext hx9).trans hE3)
    have HS4 := hid hS3
    obtain ⟨⟨b0, b1, b2⟩, bf⟩ := BB4.out
    obtain ⟨⟨r0, r1, r2⟩, rf⟩ := (BR4.out.exc ((Exc.refl B w3).setCell 0 (.int .i64 y)) (by omega))
    have HX5 := hid (HX4.out.setC (show w.heap.size ≤ B by omega) 0 (.int .i64 y))
    have HS5 := hid (HS4.out.exc ((Exc.refl B w3).setCell 0 (.int .i64 y)) hgB)
    have f0 := bf 0
    have rf0 := rf 0
    have rf1 := rf 1
    have rf2 := rf 2
    clear hE3 hS3 hx9 hy bf rf
    go_wp2_with fail
    refine bodyPost_ret (v := boardV y P C) (by simp [results, Tryz.results27, go_sem, r0, r1, r2, rf0, rf1, rf2, boardV]) rfl ⟨_, rfl, ⟨y, P, C, by omega, by omega, by omega, by omega, rfl⟩, HX5.out.put3 (Nat.le_refl _) y P C, (HS5.out.exc (exc_put3 _ w.heap.size y P C) hg).up (by omega)⟩
  by_cases e1 : c = 1
  · subst e1
    obtain ⟨p2, hp2⟩ : ∃ z, P.extract 1 P.size = z := ⟨_, rfl⟩
    have hp3 : p2.size ≤ 225 := by rw [← hp2, ByteArray.size_extract]; omega
    have hsl : 1 ≤ P.size := by omega
    obtain ⟨⟨b0, b1, b2⟩, bf⟩ := BB3.out
    have HXB := hid ((Exc.refl B w2).setCell 1 (.string p2))
    obtain ⟨⟨r0, r1, r2⟩, rf⟩ := (BR3.out.exc HXB.out (by omega))
    have HX5 := hid (HX3.out.setC (show w.heap.size ≤ B by omega) 1 (.string p2))
    have HS5 := hid (HS3.out.exc HXB.out hgB)
    have f0 := bf 1
    have rf0 := rf 0
    have rf1 := rf 1
    have rf2 := rf 2
    clear bf rf
    go_wp2_with fail
    refine bodyPost_ret (v := boardV x p2 C) (by simp [results, Tryz.results27, go_sem, r0, r1, r2, rf0, rf1, rf2, boardV]) rfl ⟨_, rfl, ⟨x, p2, C, by omega, by omega, by omega, by omega, rfl⟩, HX5.out.put3 (Nat.le_refl _) x p2 C, (HS5.out.exc (exc_put3 _ w.heap.size x p2 C) hg).up (by omega)⟩
  by_cases e2 : c = 2
  · subst e2
    obtain ⟨c2, hc2⟩ : ∃ z, C ++ (⟨#[46]⟩ : ByteArray) = z := ⟨_, rfl⟩
    have hc3 : c2.size ≤ 226 := by rw [← hc2, ByteArray.size_append]; show C.size + 1 ≤ 226; omega
    obtain ⟨⟨b0, b1, b2⟩, bf⟩ := BB3.out
    have HXB := hid ((Exc.refl B w2).setCell 2 (.string c2))
    obtain ⟨⟨r0, r1, r2⟩, rf⟩ := (BR3.out.exc HXB.out (by omega))
    have HX5 := hid (HX3.out.setC (show w.heap.size ≤ B by omega) 2 (.string c2))
    have HS5 := hid (HS3.out.exc HXB.out hgB)
    have f0 := bf 2
    have rf0 := rf 0
    have rf1 := rf 1
    have rf2 := rf 2
    clear bf rf
    go_wp2_with fail
    refine bodyPost_ret (v := boardV x P c2) (by simp [results, Tryz.results27, go_sem, r0, r1, r2, rf0, rf1, rf2, boardV]) rfl ⟨_, rfl, ⟨x, P, c2, by omega, by omega, by omega, by omega, rfl⟩, HX5.out.put3 (Nat.le_refl _) x P c2, (HS5.out.exc (exc_put3 _ w.heap.size x P c2) hg).up (by omega)⟩
  by_cases e3 : c = 3
  · subst e3
    obtain ⟨⟨b0, b1, b2⟩, bf⟩ := BB3.out
    clear bf
    have hsl : 1 ≤ P.size := by omega
    have hsl2 : 1 ≤ (P.size : Int) := by omega
    have HSZ : Hid ((P.extract 1 P.size).size ≤ 225) := hid (by rw [ByteArray.size_extract]; omega)
    go_wp2_with fail
    refine wp_region_mut_at 8 2 1 (Exc g) (fun _ x y => Exc g x y ∧ Src y g (k + 44)) [fun v _ => v = .pointer (some ⟨g, 0, none⟩), fun v w' => ∃ h, v = .slice (some ⟨h, 0, none⟩) 4 4 ∧ g < h ∧ Rd w' (some ⟨h, 0, none⟩) (([⟨#[120]⟩, ⟨#[68]⟩, ⟨#[52]⟩, ⟨#[84]⟩] : List ByteArray).map Value.string), fun v _ => ∃ y : ByteArray, y.size ≤ 100 ∧ v = .string y, fun v _ => v = .pointer (some ⟨B, 1, none⟩), fun v _ => v = .string P, fun v _ => v = .string (P.extract 1 P.size), fun v _ => ∃ z : ByteArray, z.size ≤ 400 ∧ v = .string z, fun v _ => v = .pointer (some ⟨B, 1, none⟩)]
      [[(0, none)], [], [(32, some 0), (33, some 1)], [(3, none)], [(35, some 3)], [(36, some 4)], [(34, some 2), (37, some 5)], [(3, none)]] (by kernel_rfl) (by kernel_rfl) (by kernel_rfl) (fun _ h => Exc.of_ext g h) (fun _ _ _ _ h1 h2 h3 => ((Exc.of_ext g h1).trans h2.1).ext h3) ?_ ?_ ?_ ?_
    · intro F hF
      simp only [List.mem_cons, List.not_mem_nil, or_false] at hF
      rcases hF with rfl | rfl | rfl | rfl | rfl | rfl | rfl | rfl
      · exact fun _ _ _ h _ => h
      · exact fun _ _ _ ⟨h, h1, h2, h3⟩ k => ⟨h, h1, h2, h3.ext k⟩
      · exact fun _ _ _ h _ => h
      · exact fun _ _ _ h _ => h
      · exact fun _ _ _ h _ => h
      · exact fun _ _ _ h _ => h
      · exact fun _ _ _ h _ => h
      · exact fun _ _ _ h _ => h
    · intro F hF
      simp only [List.mem_cons, List.not_mem_nil, or_false] at hF
      rcases hF with rfl | rfl | rfl | rfl | rfl | rfl | rfl | rfl
      · exact fun _ _ _ _ _ h _ => h
      · exact fun _ _ _ _ _ ⟨h, h1, h2, h3⟩ k => ⟨h, h1, h2, k.1.rd h3 (Nat.ne_of_gt h2)⟩
      · exact fun _ _ _ _ _ h _ => h
      · exact fun _ _ _ _ _ h _ => h
      · exact fun _ _ _ _ _ h _ => h
      · exact fun _ _ _ _ _ h _ => h
      · exact fun _ _ _ _ _ h _ => h
      · exact fun _ _ _ _ _ h _ => h
    · refine ⟨?_, ?_, ?_, ?_, ?_, ?_, ?_, ?_, trivial⟩
      · rintro ρ w1 hw hcst hfn hk
        clear hw
        simp only [known, List.getD_cons_zero, List.getD_cons_succ, Nat.reduceAdd] at hk
        simp only [List.getD_cons_zero, List.getD_cons_succ, Nat.reduceAdd, flowAt]
        go_simp
        exact ⟨Ext.refl _, by first | rfl | trivial⟩
      · rintro ρ w1 hw hcst hfn hk
        simp only [known, List.getD_cons_zero, List.getD_cons_succ, Nat.reduceAdd] at hk
        simp only [List.getD_cons_zero, List.getD_cons_succ, Nat.reduceAdd, flowAt]
        go_simp
        exact ⟨(Ext.refl _).alloc _, w1.heap.size, rfl, Nat.lt_of_lt_of_le HS3.out.lt hw.size, rd_new rfl [.string ⟨#[120]⟩, .string ⟨#[68]⟩, .string ⟨#[52]⟩, .string ⟨#[84]⟩] _⟩
      · rintro ρ w1 u hw hcst hfn hk hu
        replace hu := hid hu
        simp only [known, List.getD_cons_zero, List.getD_cons_succ, Nat.reduceAdd] at hk
        simp only [List.getD_cons_zero, List.getD_cons_succ, Nat.reduceAdd, flowAt]
        go_simp
        (obtain ⟨e31, ⟨h, e32, hgh, hrd⟩, -⟩ := hk; have HRD := hid hrd; clear hrd; unfold invAt execOp; go_simp; exact inv_text (HS3.out.ext ((Ext.refl _).drew.trans hw)) (by omega) (by omega) hgh rfl (by omega) (by omega) (by decide) HRD.out)
      · rintro ρ w1 hw hcst hfn hk
        clear hw
        simp only [known, List.getD_cons_zero, List.getD_cons_succ, Nat.reduceAdd] at hk
        simp only [List.getD_cons_zero, List.getD_cons_succ, Nat.reduceAdd, flowAt]
        go_simp
        exact ⟨Ext.refl _, by first | rfl | trivial⟩
      · rintro ρ w1 hw hcst hfn hk
        have c0 := hw.cell (b := B) (o := 1) (v := .string P) (by first | (simp [*]; done) | (simp [*, go_sem]; done) | go_cell) (by omega)
        clear hw
        simp only [known, List.getD_cons_zero, List.getD_cons_succ, Nat.reduceAdd] at hk
        simp only [List.getD_cons_zero, List.getD_cons_succ, Nat.reduceAdd, flowAt]
        go_simp
        exact ⟨Ext.refl _, by first | rfl | trivial⟩
      · rintro ρ w1 hw hcst hfn hk
        simp only [known, List.getD_cons_zero, List.getD_cons_succ, Nat.reduceAdd] at hk
        simp only [List.getD_cons_zero, List.getD_cons_succ, Nat.reduceAdd, flowAt]
        go_simp
        exact ⟨Ext.refl _, rfl⟩
      · rintro ρ w1 hw hcst hfn hk
        simp only [known, List.getD_cons_zero, List.getD_cons_succ, Nat.reduceAdd] at hk
        simp only [List.getD_cons_zero, List.getD_cons_succ, Nat.reduceAdd, flowAt]
        go_simp
        (obtain ⟨⟨y, hy, e1⟩, e2, -⟩ := hk; have hno : ¬ 9223372036854775807 < y.size + (P.size - 1) := (by omega); rw [e1]; go_simp; exact ⟨Ext.refl _, _, by rw [ByteArray.size_append]; have := HSZ.out; omega, rfl⟩)
      · rintro ρ w1 hw hcst hfn hk
        simp only [known, List.getD_cons_zero, List.getD_cons_succ, Nat.reduceAdd] at hk
        simp only [List.getD_cons_zero, List.getD_cons_succ, Nat.reduceAdd, flowAt]
        go_simp
        exact ⟨Ext.refl _, rfl⟩
    intro vs wa wb w1 hwa hr hw hf
    simp only [flowFacts, Nat.reduceAdd] at hf
    obtain ⟨e0, e1, e2, e3, e4, e5, e6, e7, -⟩ := hf
    simp only [List.take_succ_cons, List.take_zero, List.drop_succ_cons, List.drop_zero, putAll, Act.put, Nat.reduceAdd, List.setIfInBounds_toArray, List.set_cons_zero, List.set_cons_succ, e0, e1, e2, e3, e4, e5, e7]
    clear e0 e1 e2 e3 e4 e5 e7
    obtain ⟨z, hz, e6⟩ := e6
    rw [e6]
    obtain ⟨hrX, hrS⟩ := hr
    have hwa2 := (Ext.refl _).drew.trans hwa
    have BR4 := hid (((BR3.out.ext hwa2).exc hrX (by omega)).ext hw)
    have BB4 := hid (((BB3.out.ext hwa2).exc hrX (by omega)).ext hw)
    have HX4 := hid (((HX3.out.ext hwa2).trans hrX).ext hw)
    have HS4 := hid (hrS.ext hw)
    clear hwa hwa2 hrX hrS hw b0 b1 b2 e6
    obtain ⟨⟨b0, b1, b2⟩, bf⟩ := BB4.out
    have HXB := hid ((Exc.refl B w1).setCell 1 (.string z))
    obtain ⟨⟨r0, r1, r2⟩, rf⟩ := (BR4.out.exc HXB.out (by omega))
    have HX5 := hid (HX4.out.setC (show w.heap.size ≤ B by omega) 1 (.string z))
    have HS5 := hid (HS4.out.exc HXB.out hgB)
    have f0 := bf 1
    have rf0 := rf 0
    have rf1 := rf 1
    have rf2 := rf 2
    clear bf rf
    go_wp2_with fail
    refine bodyPost_ret (v := boardV x z C) (by simp [results, Tryz.results27, go_sem, r0, r1, r2, rf0, rf1, rf2, boardV]) rfl ⟨_, rfl, ⟨x, z, C, by omega, by omega, by omega, by omega, rfl⟩, HX5.out.put3 (Nat.le_refl _) x z C, (HS5.out.exc (exc_put3 _ w.heap.size x z C) hg).up (by omega)⟩
  by_cases e4 : c = 4
  · subst e4
    obtain ⟨⟨b0, b1, b2⟩, bf⟩ := BB3.out
    clear bf
    have hsl : 1 ≤ C.size := by omega
    have hsl2 : 1 ≤ (C.size : Int) := by omega
    have HSZ : Hid ((C.extract 1 C.size).size ≤ 225) := hid (by rw [ByteArray.size_extract]; omega)
    go_wp2_with fail
    refine wp_region_mut_at 8 2 1 (Exc g) (fun _ x y => Exc g x y ∧ Src y g (k + 44)) [fun v _ => v = .pointer (some ⟨g, 0, none⟩), fun v w' => ∃ h, v = .slice (some ⟨h, 0, none⟩) 4 4 ∧ g < h ∧ Rd w' (some ⟨h, 0, none⟩) (([⟨#[63]⟩, ⟨#[49]⟩, ⟨#[32]⟩, ⟨#[65]⟩] : List ByteArray).map Value.string), fun v _ => ∃ y : ByteArray, y.size ≤ 100 ∧ v = .string y, fun v _ => v = .pointer (some ⟨B, 2, none⟩), fun v _ => v = .string C, fun v _ => v = .string (C.extract 1 C.size), fun v _ => ∃ z : ByteArray, z.size ≤ 400 ∧ v = .string z, fun v _ => v = .pointer (some ⟨B, 2, none⟩)]
      [[(0, none)], [], [(42, some 0), (43, some 1)], [(3, none)], [(45, some 3)], [(46, some 4)], [(44, some 2), (47, some 5)], [(3, none)]] (by kernel_rfl) (by kernel_rfl) (by kernel_rfl) (fun _ h => Exc.of_ext g h) (fun _ _ _ _ h1 h2 h3 => ((Exc.of_ext g h1).trans h2.1).ext h3) ?_ ?_ ?_ ?_
    · intro F hF
      simp only [List.mem_cons, List.not_mem_nil, or_false] at hF
      rcases hF with rfl | rfl | rfl | rfl | rfl | rfl | rfl | rfl
      · exact fun _ _ _ h _ => h
      · exact fun _ _ _ ⟨h, h1, h2, h3⟩ k => ⟨h, h1, h2, h3.ext k⟩
      · exact fun _ _ _ h _ => h
      · exact fun _ _ _ h _ => h
      · exact fun _ _ _ h _ => h
      · exact fun _ _ _ h _ => h
      · exact fun _ _ _ h _ => h
      · exact fun _ _ _ h _ => h
    · intro F hF
      simp only [List.mem_cons, List.not_mem_nil, or_false] at hF
      rcases hF with rfl | rfl | rfl | rfl | rfl | rfl | rfl | rfl
      · exact fun _ _ _ _ _ h _ => h
      · exact fun _ _ _ _ _ ⟨h, h1, h2, h3⟩ k => ⟨h, h1, h2, k.1.rd h3 (Nat.ne_of_gt h2)⟩
      · exact fun _ _ _ _ _ h _ => h
      · exact fun _ _ _ _ _ h _ => h
      · exact fun _ _ _ _ _ h _ => h
      · exact fun _ _ _ _ _ h _ => h
      · exact fun _ _ _ _ _ h _ => h
      · exact fun _ _ _ _ _ h _ => h
    · refine ⟨?_, ?_, ?_, ?_, ?_, ?_, ?_, ?_, trivial⟩
      · rintro ρ w1 hw hcst hfn hk
        clear hw
        simp only [known, List.getD_cons_zero, List.getD_cons_succ, Nat.reduceAdd] at hk
        simp only [List.getD_cons_zero, List.getD_cons_succ, Nat.reduceAdd, flowAt]
        go_simp
        exact ⟨Ext.refl _, by first | rfl | trivial⟩
      · rintro ρ w1 hw hcst hfn hk
        simp only [known, List.getD_cons_zero, List.getD_cons_succ, Nat.reduceAdd] at hk
        simp only [List.getD_cons_zero, List.getD_cons_succ, Nat.reduceAdd, flowAt]
        go_simp
        exact ⟨(Ext.refl _).alloc _, w1.heap.size, rfl, Nat.lt_of_lt_of_le HS3.out.lt hw.size, rd_new rfl [.string ⟨#[63]⟩, .string ⟨#[49]⟩, .string ⟨#[32]⟩, .string ⟨#[65]⟩] _⟩
      · rintro ρ w1 u hw hcst hfn hk hu
        replace hu := hid hu
        simp only [known, List.getD_cons_zero, List.getD_cons_succ, Nat.reduceAdd] at hk
        simp only [List.getD_cons_zero, List.getD_cons_succ, Nat.reduceAdd, flowAt]
        go_simp
        (obtain ⟨e31, ⟨h, e32, hgh, hrd⟩, -⟩ := hk; have HRD := hid hrd; clear hrd; unfold invAt execOp; go_simp; exact inv_text (HS3.out.ext ((Ext.refl _).drew.trans hw)) (by omega) (by omega) hgh rfl (by omega) (by omega) (by decide) HRD.out)
      · rintro ρ w1 hw hcst hfn hk
        clear hw
        simp only [known, List.getD_cons_zero, List.getD_cons_succ, Nat.reduceAdd] at hk
        simp only [List.getD_cons_zero, List.getD_cons_succ, Nat.reduceAdd, flowAt]
        go_simp
        exact ⟨Ext.refl _, by first | rfl | trivial⟩
      · rintro ρ w1 hw hcst hfn hk
        have c0 := hw.cell (b := B) (o := 2) (v := .string C) (by first | (simp [*]; done) | (simp [*, go_sem]; done) | go_cell) (by omega)
        clear hw
        simp only [known, List.getD_cons_zero, List.getD_cons_succ, Nat.reduceAdd] at hk
        simp only [List.getD_cons_zero, List.getD_cons_succ, Nat.reduceAdd, flowAt]
        go_simp
        exact ⟨Ext.refl _, by first | rfl | trivial⟩
      · rintro ρ w1 hw hcst hfn hk
        simp only [known, List.getD_cons_zero, List.getD_cons_succ, Nat.reduceAdd] at hk
        simp only [List.getD_cons_zero, List.getD_cons_succ, Nat.reduceAdd, flowAt]
        go_simp
        exact ⟨Ext.refl _, rfl⟩
      · rintro ρ w1 hw hcst hfn hk
        simp only [known, List.getD_cons_zero, List.getD_cons_succ, Nat.reduceAdd] at hk
        simp only [List.getD_cons_zero, List.getD_cons_succ, Nat.reduceAdd, flowAt]
        go_simp
        (obtain ⟨⟨y, hy, e1⟩, e2, -⟩ := hk; have hno : ¬ 9223372036854775807 < y.size + (C.size - 1) := (by omega); rw [e1]; go_simp; exact ⟨Ext.refl _, _, by rw [ByteArray.size_append]; have := HSZ.out; omega, rfl⟩)
      · rintro ρ w1 hw hcst hfn hk
        simp only [known, List.getD_cons_zero, List.getD_cons_succ, Nat.reduceAdd] at hk
        simp only [List.getD_cons_zero, List.getD_cons_succ, Nat.reduceAdd, flowAt]
        go_simp
        exact ⟨Ext.refl _, rfl⟩
    intro vs wa wb w1 hwa hr hw hf
    simp only [flowFacts, Nat.reduceAdd] at hf
    obtain ⟨e0, e1, e2, e3, e4, e5, e6, e7, -⟩ := hf
    simp only [List.take_succ_cons, List.take_zero, List.drop_succ_cons, List.drop_zero, putAll, Act.put, Nat.reduceAdd, List.setIfInBounds_toArray, List.set_cons_zero, List.set_cons_succ, e0, e1, e2, e3, e4, e5, e7]
    clear e0 e1 e2 e3 e4 e5 e7
    obtain ⟨z, hz, e6⟩ := e6
    rw [e6]
    obtain ⟨hrX, hrS⟩ := hr
    have hwa2 := (Ext.refl _).drew.trans hwa
    have BR4 := hid (((BR3.out.ext hwa2).exc hrX (by omega)).ext hw)
    have BB4 := hid (((BB3.out.ext hwa2).exc hrX (by omega)).ext hw)
    have HX4 := hid (((HX3.out.ext hwa2).trans hrX).ext hw)
    have HS4 := hid (hrS.ext hw)
    clear hwa hwa2 hrX hrS hw b0 b1 b2 e6
    obtain ⟨⟨b0, b1, b2⟩, bf⟩ := BB4.out
    have HXB := hid ((Exc.refl B w1).setCell 2 (.string z))
    obtain ⟨⟨r0, r1, r2⟩, rf⟩ := (BR4.out.exc HXB.out (by omega))
    have HX5 := hid (HX4.out.setC (show w.heap.size ≤ B by omega) 2 (.string z))
    have HS5 := hid (HS4.out.exc HXB.out hgB)
    have f0 := bf 2
    have rf0 := rf 0
    have rf1 := rf 1
    have rf2 := rf 2
    clear bf rf
    go_wp2_with fail
    refine bodyPost_ret (v := boardV x P z) (by simp [results, Tryz.results27, go_sem, r0, r1, r2, rf0, rf1, rf2, boardV]) rfl ⟨_, rfl, ⟨x, P, z, by omega, by omega, by omega, by omega, rfl⟩, HX5.out.put3 (Nat.le_refl _) x P z, (HS5.out.exc (exc_put3 _ w.heap.size x P z) hg).up (by omega)⟩
  by_cases e5 : c = 5
  · subst e5
    go_wp2_with fail
    refine (among_new g (k + 40 + 2) 3 [11, 12, 15] w2 HS3.out (by omega) rfl (by omega) (by omega)).mono ?_
    rintro e w3 ⟨v, rfl, ⟨y, hy, rfl⟩, hE3, hS3⟩
    have hy2 : 11 ≤ y ∧ y ≤ 15 := by simp at hy; omega
    obtain ⟨hy0, hy1⟩ := hy2
    have hx9 : Ext w2 (w2.alloc (.cells (([11, 12, 15] : List Int).map (Value.int .i64)).toArray 2)) := (Ext.refl w2).alloc _
    have BR4 := hid ((BR3.out.ext hx9).exc hE3 (by omega))
    have BB4 := hid ((BB3.out.ext hx9).exc hE3 (by omega))
    have HX4 := hid ((HX3.out.ext hx9).trans hE3)
    have HS4 := hid hS3
    obtain ⟨yy, hyy⟩ : ∃ yy : Int, y * y = yy := ⟨_, rfl⟩
    have hyb : 121 ≤ yy ∧ yy ≤ 225 := by
      rw [← hyy]
      have a : 11 * 11 ≤ y * y := Int.mul_le_mul hy0 hy0 (by omega) (by omega)
      have b : y * y ≤ 15 * 15 := Int.mul_le_mul hy1 hy1 (by omega) (by omega)
      omega
    obtain ⟨hyb0, hyb1⟩ := hyb
    have qy : IntKind.i64.wrap (y * y) = yy := by rw [hyy]; exact IntWalk.i64_in _ (by omega)
    clear hE3 hS3 hx9 hy BR3 BB3 HX3 HS3
    go_wp2_with fail
    refine (l02Repeat_any 50 yy _ (by omega)).mono ?_
    rintro e w4 ⟨he, hx4⟩
    obtain ⟨p2, hp2⟩ : ∃ z : ByteArray, (⟨(List.replicate yy.toNat (50 : UInt8)).toArray⟩ : ByteArray) = z := ⟨_, rfl⟩
    have hp3 : p2.size ≤ 225 := by rw [← hp2]; show (List.replicate yy.toNat (50 : UInt8)).toArray.size ≤ 225; simp; omega
    rw [hp2] at he
    subst he
    clear hp2
    go_wp2_with fail
    refine (l02Repeat_any 101 120 _ (by omega)).mono ?_
    rintro e w5 ⟨he, hx5'⟩
    obtain ⟨p3, hp4⟩ : ∃ z : ByteArray, (⟨(List.replicate (120 : Int).toNat (101 : UInt8)).toArray⟩ : ByteArray) = z := ⟨_, rfl⟩
    have hp5 : p3.size ≤ 120 := by rw [← hp4]; show (List.replicate (120 : Int).toNat (101 : UInt8)).toArray.size ≤ 120; simp
    rw [hp4] at he
    subst he
    clear hp4
    go_wp2_with fail
    refine (l02Repeat_any 46 (yy - 120) _ (by omega)).mono ?_
    rintro e w6 ⟨he, hx6⟩
    obtain ⟨p4, hp6⟩ : ∃ z : ByteArray, (⟨(List.replicate (yy - 120).toNat (46 : UInt8)).toArray⟩ : ByteArray) = z := ⟨_, rfl⟩
    have hp7 : p4.size ≤ 225 := by rw [← hp6]; show (List.replicate (yy - 120).toNat (46 : UInt8)).toArray.size ≤ 225; simp; omega
    rw [hp6] at he
    subst he
    clear hp6
    obtain ⟨c2, hc2⟩ : ∃ z, p3 ++ p4 = z := ⟨_, rfl⟩
    have hc3 : c2.size ≤ 400 := by rw [← hc2, ByteArray.size_append]; omega
    have hxx := (hx4.trans hx5').trans hx6
    have BR5 := hid (BR4.out.ext hxx)
    have BB5 := hid (BB4.out.ext hxx)
    have HX5 := hid ((HX4.out.ext hxx).put3 (show w.heap.size ≤ B by omega) y p2 c2)
    have HS5 := hid ((HS4.out.ext hxx).exc (exc_put3 _ B y p2 c2) hgB)
    obtain ⟨⟨b0, b1, b2⟩, bf⟩ := BB5.out
    obtain ⟨⟨r0, r1, r2⟩, rf⟩ := BR5.out.exc (exc_put3 _ B y p2 c2) (by omega)
    obtain ⟨⟨d0, d1, d2⟩, df⟩ := BB5.out.put y p2 c2
    unfold put3 at r0 r1 r2 rf d0 d1 d2
    have f0 := bf 0
    have f1 := bf 1
    have f2 := bf 2
    have rf0 := rf 0
    have rf1 := rf 1
    have rf2 := rf 2
    clear bf rf df hx4 hx5' hx6 hxx BR4 BB4 HX4 HS4
    go_wp2_with fail
    refine bodyPost_ret (v := boardV y p2 c2) (by simp [results, Tryz.results27, go_sem, r0, r1, r2, rf0, rf1, rf2, boardV]) rfl ⟨_, rfl, ⟨y, p2, c2, by omega, by omega, by omega, by omega, rfl⟩, HX5.out.put3 (Nat.le_refl _) y p2 c2, (HS5.out.exc (exc_put3 _ w.heap.size y p2 c2) hg).up (by omega)⟩
  · obtain ⟨⟨b0, b1, b2⟩, bf⟩ := BB3.out
    obtain ⟨⟨r0, r1, r2⟩, rf⟩ := BR3.out
    have rf0 := rf 0
    have rf1 := rf 1
    have rf2 := rf 2
    have m0 : (c == 0) = false := by simpa using e0
    have m1 : (c == 1) = false := by simpa using e1
    have m2 : (c == 2) = false := by simpa using e2
    have m3 : (c == 3) = false := by simpa using e3
    have m4 : (c == 4) = false := by simpa using e4
    have m5 : (c == 5) = false := by simpa using e5
    clear bf rf e0 e1 e2 e3 e4 e5
    go_wp2_with fail
    refine bodyPost_ret (v := boardV x P C) (by simp [results, Tryz.results27, go_sem, r0, r1, r2, rf0, rf1, rf2, boardV]) rfl ⟨_, rfl, ⟨x, P, C, by omega, by omega, by omega, by omega, rfl⟩, HX3.out.put3 (Nat.le_refl _) x P C, (HS3.out.exc (exc_put3 _ w.heap.size x P C) hg).up (by omega)⟩
end Go.Proofs.YtmohfdfjlgekaaaGreatDoor
