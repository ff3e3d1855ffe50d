/- A text that is drawn for ReadBoard. Conditions: at most 2^20 bytes to draw from. -/
import Derived.Test.YtmohfdfjlgekaaaGreatDoorMg12
import Derived.Test.YtmohfdfjlgekaaaGreatDoorCh11u
namespace Go.Proofs.YtmohfdfjlgekaaaGreatDoor
set_option linter.unusedVariables false
set_option linter.unusedSimpArgs false
open Go Go.RowKit
/-- A short text. -/
def DrT (b : Nat) (v : Value) : Prop := ∃ y : ByteArray, y.size ≤ b ∧ v = .string y
set_option maxHeartbeats 4000000 in
theorem l01Spoil_any (g k : Nat) (t : ByteArray) (w : World) (h : Src w g k) (hk : k ≤ 1099511610000) (ht : t.size ≤ 1000) :
    Calls Tryz.prog 55 #[.pointer (some ⟨g, 0, none⟩), .string t] w (Drew g k 6 (fun v _ => DrT 2200 v) w) := by
  have hg := h.lt
  have HS := hid h
  clear h
  go_enter Tryz.func55, Tryz.ntmps55
  go_wp2_with fail
  refine (pick_any g k 5 _ HS.out (by omega)).mono ?_
  rintro e w1 ⟨v, rfl, ⟨c, hc0, hc1, rfl⟩, hE1, hS1⟩
  have HX1 := hid hE1
  have HS1 := hid hS1
  clear hE1 hS1 hc1 HS
  by_cases e0 : c = 0
  · subst e0
    go_wp2_with fail
    refine (pick_any g (k + 2) (t.size + 1) _ HS1.out (by omega)).mono ?_
    rintro e w2 ⟨v, rfl, ⟨i, hi0, hi1, rfl⟩, hE2, hS2⟩
    have HX2 := hid (HX1.out.trans hE2)
    have HS2 := hid hS2
    obtain ⟨m, rfl⟩ : ∃ m : Nat, i = m := ⟨i.toNat, by omega⟩
    have hm : m ≤ t.size := by omega
    have hm2 : (m : Int) ≤ t.size := by omega
    clear hE2 hS2 hi0 hi1 HX1 HS1
    obtain ⟨p, hp⟩ : ∃ p, t.extract 0 m = p := ⟨_, rfl⟩
    obtain ⟨q, hq⟩ : ∃ q, t.extract m t.size = q := ⟨_, rfl⟩
    have hps : p.size ≤ 1000 := by rw [← hp, ByteArray.size_extract]; omega
    have hqs : q.size ≤ 1000 := by rw [← hq, ByteArray.size_extract]; omega
    go_wp2_with fail
    refine wp_region_mut_at 12 5 4 (Exc g) (fun _ x y => Exc g x y ∧ Src y g (k + 6)) [fun v _ => v = .string t, fun v _ => v = .int .i64 (m : Int), fun v _ => v = .string p, fun v _ => v = .pointer (some ⟨g, 0, none⟩), fun v w' => ∃ h, v = .slice (some ⟨h, 0, none⟩) 7 7 ∧ g < h ∧ Rd w' (some ⟨h, 0, none⟩) (([⟨#[32]⟩, ⟨#[48]⟩, ⟨#[45]⟩, ⟨#[120]⟩, ⟨#[49]⟩, ⟨#[57]⟩, ⟨#[46]⟩] : List ByteArray).map Value.string), fun v _ => ∃ y : ByteArray, y.size ≤ 100 ∧ v = .string y, fun v _ => ∃ z : ByteArray, z.size ≤ 1100 ∧ v = .string z, fun v _ => v = .string t, fun v _ => v = .int .i64 (m : Int), fun v _ => v = .string q, fun v _ => ∃ z : ByteArray, z.size ≤ 2100 ∧ v = .string z, fun v _ => ∃ z : ByteArray, z.size ≤ 2100 ∧ v = .string z]
      [[(1, none)], [(5, none)], [(16, some 0), (17, some 1)], [(0, none)], [], [(19, some 3), (20, some 4)], [(18, some 2), (21, some 5)], [(1, none)], [(5, none)], [(23, some 7), (24, some 8)], [(22, some 6), (25, some 9)], [(26, some 10)]] (by kernel_rfl) (by kernel_rfl) (by kernel_rfl) (fun _ h => Exc.of_ext g h) (fun _ _ _ _ h1 h2 h3 => ((Exc.of_ext g h1).trans h2.1).ext h3) ?_ ?_ ?_ ?_
    · intro F hF
      simp only [List.mem_cons, List.not_mem_nil, or_false] at hF
      rcases hF with rfl | rfl | rfl | rfl | rfl | rfl | rfl | rfl | rfl | rfl | rfl | rfl
      · exact fun _ _ _ h _ => h
      · exact fun _ _ _ h _ => h
      · exact fun _ _ _ h _ => h
      · exact fun _ _ _ h _ => h
      · exact fun _ _ _ ⟨h, h1, h2, h3⟩ k => ⟨h, h1, h2, h3.ext k⟩
      · exact fun _ _ _ h _ => h
      · exact fun _ _ _ h _ => h
      · exact fun _ _ _ h _ => h
      · exact fun _ _ _ h _ => h
      · exact fun _ _ _ h _ => h
      · exact fun _ _ _ h _ => h
      · exact fun _ _ _ h _ => h
    · intro F hF
      simp only [List.mem_cons, List.not_mem_nil, or_false] at hF
      rcases hF with rfl | rfl | rfl | rfl | rfl | rfl | rfl | rfl | rfl | rfl | rfl | rfl
      · exact fun _ _ _ _ _ h _ => h
      · exact fun _ _ _ _ _ h _ => h
      · exact fun _ _ _ _ _ h _ => h
      · exact fun _ _ _ _ _ h _ => h
      · exact fun _ _ _ _ _ ⟨h, h1, h2, h3⟩ k => ⟨h, h1, h2, k.1.rd h3 (Nat.ne_of_gt h2)⟩
      · exact fun _ _ _ _ _ h _ => h
      · exact fun _ _ _ _ _ h _ => h
      · exact fun _ _ _ _ _ h _ => h
      · exact fun _ _ _ _ _ h _ => h
      · exact fun _ _ _ _ _ h _ => h
      · exact fun _ _ _ _ _ h _ => h
      · exact fun _ _ _ _ _ h _ => h
    · refine ⟨?_, ?_, ?_, ?_, ?_, ?_, ?_, ?_, ?_, ?_, ?_, ?_, trivial⟩
      · rintro ρ w1 hw hcst hfn hk
        clear hw
        simp only [known, List.getD_cons_zero, List.getD_cons_succ, Nat.reduceAdd] at hk
        simp only [List.getD_cons_zero, List.getD_cons_succ, Nat.reduceAdd, flowAt]
        go_simp
        exact ⟨Ext.refl _, by first | rfl | trivial⟩
      · rintro ρ w1 hw hcst hfn hk
        clear hw
        simp only [known, List.getD_cons_zero, List.getD_cons_succ, Nat.reduceAdd] at hk
        simp only [List.getD_cons_zero, List.getD_cons_succ, Nat.reduceAdd, flowAt]
        go_simp
        exact ⟨Ext.refl _, by first | rfl | trivial⟩
      · rintro ρ w1 hw hcst hfn hk
        simp only [known, List.getD_cons_zero, List.getD_cons_succ, Nat.reduceAdd] at hk
        simp only [List.getD_cons_zero, List.getD_cons_succ, Nat.reduceAdd, flowAt]
        go_simp
        exact ⟨Ext.refl _, by rw [← hp]⟩
      · rintro ρ w1 hw hcst hfn hk
        clear hw
        simp only [known, List.getD_cons_zero, List.getD_cons_succ, Nat.reduceAdd] at hk
        simp only [List.getD_cons_zero, List.getD_cons_succ, Nat.reduceAdd, flowAt]
        go_simp
        exact ⟨Ext.refl _, by first | rfl | trivial⟩
      · rintro ρ w1 hw hcst hfn hk
        simp only [known, List.getD_cons_zero, List.getD_cons_succ, Nat.reduceAdd] at hk
        simp only [List.getD_cons_zero, List.getD_cons_succ, Nat.reduceAdd, flowAt]
        go_simp
        exact ⟨(Ext.refl _).alloc _, w1.heap.size, rfl, Nat.lt_of_lt_of_le HS2.out.lt hw.size, rd_new rfl [.string ⟨#[32]⟩, .string ⟨#[48]⟩, .string ⟨#[45]⟩, .string ⟨#[120]⟩, .string ⟨#[49]⟩, .string ⟨#[57]⟩, .string ⟨#[46]⟩] _⟩
      · rintro ρ w1 u hw hcst hfn hk hu
        replace hu := hid hu
        simp only [known, List.getD_cons_zero, List.getD_cons_succ, Nat.reduceAdd] at hk
        simp only [List.getD_cons_zero, List.getD_cons_succ, Nat.reduceAdd, flowAt]
        go_simp
        (obtain ⟨e31, ⟨h, e32, hgh, hrd⟩, -⟩ := hk; have HRD := hid hrd; clear hrd; unfold invAt execOp; go_simp; exact inv_text (HS2.out.ext ((Ext.refl _).drew.trans hw)) (by omega) (by omega) hgh rfl (by omega) (by omega) (by decide) HRD.out)
      · rintro ρ w1 hw hcst hfn hk
        simp only [known, List.getD_cons_zero, List.getD_cons_succ, Nat.reduceAdd] at hk
        simp only [List.getD_cons_zero, List.getD_cons_succ, Nat.reduceAdd, flowAt]
        go_simp
        (obtain ⟨e2, ⟨y, hy, e1⟩, -⟩ := hk; have hno : ¬ 9223372036854775807 < p.size + y.size := (by omega); rw [e1]; go_simp; exact ⟨Ext.refl _, _, by rw [ByteArray.size_append]; omega, rfl⟩)
      · rintro ρ w1 hw hcst hfn hk
        clear hw
        simp only [known, List.getD_cons_zero, List.getD_cons_succ, Nat.reduceAdd] at hk
        simp only [List.getD_cons_zero, List.getD_cons_succ, Nat.reduceAdd, flowAt]
        go_simp
        exact ⟨Ext.refl _, by first | rfl | trivial⟩
      · rintro ρ w1 hw hcst hfn hk
        clear hw
        simp only [known, List.getD_cons_zero, List.getD_cons_succ, Nat.reduceAdd] at hk
        simp only [List.getD_cons_zero, List.getD_cons_succ, Nat.reduceAdd, flowAt]
        go_simp
        exact ⟨Ext.refl _, by first | rfl | trivial⟩
      · rintro ρ w1 hw hcst hfn hk
        simp only [known, List.getD_cons_zero, List.getD_cons_succ, Nat.reduceAdd] at hk
        simp only [List.getD_cons_zero, List.getD_cons_succ, Nat.reduceAdd, flowAt]
        go_simp
        exact ⟨Ext.refl _, by rw [← hq]⟩
      · rintro ρ w1 hw hcst hfn hk
        simp only [known, List.getD_cons_zero, List.getD_cons_succ, Nat.reduceAdd] at hk
        simp only [List.getD_cons_zero, List.getD_cons_succ, Nat.reduceAdd, flowAt]
        go_simp
        (obtain ⟨⟨y, hy, e1⟩, e2, -⟩ := hk; have hno : ¬ 9223372036854775807 < y.size + q.size := (by omega); rw [e1]; go_simp; exact ⟨Ext.refl _, _, by rw [ByteArray.size_append]; omega, rfl⟩)
      · rintro ρ w1 hw hcst hfn hk
        simp only [known, List.getD_cons_zero, List.getD_cons_succ, Nat.reduceAdd] at hk
        simp only [List.getD_cons_zero, List.getD_cons_succ, Nat.reduceAdd, flowAt]
        go_simp
        (obtain ⟨⟨y, hy, e1⟩, -⟩ := hk; rw [e1]; go_simp; exact ⟨Ext.refl _, _, hy, rfl⟩)
    intro vs wa wb w1 hwa hr hw hf
    simp only [flowFacts, Nat.reduceAdd] at hf
    obtain ⟨e0, e1, e2, e3, e4, e5, e6, e7, e8, e9, e10, e11, -⟩ := hf
    simp only [List.take_succ_cons, List.take_zero, List.drop_succ_cons, List.drop_zero, putAll, Act.put, Nat.reduceAdd, List.setIfInBounds_toArray, List.set_cons_zero, List.set_cons_succ, e0, e1, e2, e3, e4, e5, e6, e7, e8, e9, e10]
    clear e0 e1 e2 e3 e4 e5 e6 e7 e8 e9 e10
    obtain ⟨z, hz, e11⟩ := e11
    rw [e11]
    obtain ⟨hrX, hrS⟩ := hr
    have hwa2 := (Ext.refl _).drew.trans hwa
    have HX4 := hid ((((HX2.out.ext hwa2).trans hrX)).ext hw)
    have HS4 := hid (hrS.ext hw)
    clear hwa hwa2 hrX hrS hw e11 hp hq
    go_wp2_with fail
    go_returns
    exact ⟨_, rfl, ⟨z, by omega, rfl⟩, HX4.out, HS4.out⟩
  have m0 : (c == 0) = false := by simpa using e0
  by_cases e1 : c = 1
  · subst e1
    obtain ⟨b, hb⟩ : ∃ b, t.toList.isEmpty = b := ⟨_, rfl⟩
    cases b
    · have hpos : 0 < t.size := by
        rcases Nat.eq_zero_or_pos t.size with h0 | h0
        · exfalso
          have : t = ⟨#[]⟩ := by
            apply ByteArray.ext
            exact Array.eq_empty_of_size_eq_zero h0
          subst this
          simp at hb
        · exact h0
      go_wp2_with fail
      refine (pick_any g (k + 2) t.size _ HS1.out (by omega)).mono ?_
      rintro e w2 ⟨v, rfl, ⟨i, hi0, hi1, rfl⟩, hE2, hS2⟩
      have HX2 := hid (HX1.out.trans hE2)
      have HS2 := hid hS2
      obtain ⟨m, rfl⟩ : ∃ m : Nat, i = m := ⟨i.toNat, by omega⟩
      have hm : m < t.size := by omega
      have hm2 : (m : Int) < t.size := by omega
      have hm3 : (m : Int) ≤ t.size := by omega
      have hm4 : (m : Int) + 1 ≤ t.size := by omega
      have hm5 : IntKind.i64.wrap ((m : Int) + 1) = (m : Int) + 1 := IntWalk.i64_in _ (by omega)
      clear hE2 hS2 hi0 hi1 HX1 HS1
      obtain ⟨p, hp⟩ : ∃ p, t.extract 0 m = p := ⟨_, rfl⟩
      obtain ⟨q, hq⟩ : ∃ q, t.extract (m + 1) t.size = q := ⟨_, rfl⟩
      have hps : p.size ≤ 1000 := by rw [← hp, ByteArray.size_extract]; omega
      have hqs : q.size ≤ 1000 := by rw [← hq, ByteArray.size_extract]; omega
      have hno : ¬ 9223372036854775807 < p.size + q.size := by omega
      have hap : (p ++ q).size ≤ 2000 := by rw [ByteArray.size_append]; omega
      go_wp2_with fail
      refine wp_region_flow_at (C := Ext) 9 [fun v _ => v = .string t, fun v _ => v = .int .i64 (m : Int), fun v _ => v = .string p, fun v _ => v = .string t, fun v _ => v = .int .i64 (m : Int), fun v _ => v = .int .i64 ((m : Int) + 1), fun v _ => v = .string q, fun v _ => v = .string (p ++ q), fun v _ => v = .string (p ++ q)]
        [[(1, none)], [(6, none)], [(35, some 0), (36, some 1)], [(1, none)], [(6, none)], [(39, some 4)], [(38, some 3), (40, some 5)], [(37, some 2), (41, some 6)], [(42, some 7)]] (by kernel_rfl) (by kernel_rfl) Ext.refl (fun _ _ _ => Ext.trans) ?_ ?_ ?_
      · intro F hF
        simp only [List.mem_cons, List.not_mem_nil, or_false] at hF
        rcases hF with rfl | rfl | rfl | rfl | rfl | rfl | rfl | rfl | rfl <;> exact fun _ _ _ h _ => h
      · refine ⟨?_, ?_, ?_, ?_, ?_, ?_, ?_, ?_, ?_, trivial⟩
        · rintro ρ w1 hw hcst hfn hk
          clear hw
          simp only [known, List.getD_cons_zero, List.getD_cons_succ, Nat.reduceAdd] at hk
          simp only [List.getD_cons_zero, List.getD_cons_succ, Nat.reduceAdd, flowAt]
          go_simp
          exact ⟨Ext.refl _, by first | rfl | trivial⟩
        · rintro ρ w1 hw hcst hfn hk
          clear hw
          simp only [known, List.getD_cons_zero, List.getD_cons_succ, Nat.reduceAdd] at hk
          simp only [List.getD_cons_zero, List.getD_cons_succ, Nat.reduceAdd, flowAt]
          go_simp
          exact ⟨Ext.refl _, by first | rfl | trivial⟩
        · rintro ρ w1 hw hcst hfn hk
          simp only [known, List.getD_cons_zero, List.getD_cons_succ, Nat.reduceAdd] at hk
          simp only [List.getD_cons_zero, List.getD_cons_succ, Nat.reduceAdd, flowAt]
          go_simp
          exact ⟨Ext.refl _, by rw [← hp]⟩
        · rintro ρ w1 hw hcst hfn hk
          clear hw
          simp only [known, List.getD_cons_zero, List.getD_cons_succ, Nat.reduceAdd] at hk
          simp only [List.getD_cons_zero, List.getD_cons_succ, Nat.reduceAdd, flowAt]
          go_simp
          exact ⟨Ext.refl _, by first | rfl | trivial⟩
        · rintro ρ w1 hw hcst hfn hk
          clear hw
          simp only [known, List.getD_cons_zero, List.getD_cons_succ, Nat.reduceAdd] at hk
          simp only [List.getD_cons_zero, List.getD_cons_succ, Nat.reduceAdd, flowAt]
          go_simp
          exact ⟨Ext.refl _, by first | rfl | trivial⟩
        · rintro ρ w1 hw hcst hfn hk
          simp only [known, List.getD_cons_zero, List.getD_cons_succ, Nat.reduceAdd] at hk
          simp only [List.getD_cons_zero, List.getD_cons_succ, Nat.reduceAdd, flowAt]
          go_simp
          exact ⟨Ext.refl _, rfl⟩
        · rintro ρ w1 hw hcst hfn hk
          simp only [known, List.getD_cons_zero, List.getD_cons_succ, Nat.reduceAdd] at hk
          simp only [List.getD_cons_zero, List.getD_cons_succ, Nat.reduceAdd, flowAt]
          go_simp
          exact ⟨Ext.refl _, by rw [← hq]⟩
        · rintro ρ w1 hw hcst hfn hk
          simp only [known, List.getD_cons_zero, List.getD_cons_succ, Nat.reduceAdd] at hk
          simp only [List.getD_cons_zero, List.getD_cons_succ, Nat.reduceAdd, flowAt]
          go_simp
          exact ⟨Ext.refl _, rfl⟩
        · rintro ρ w1 hw hcst hfn hk
          clear hw
          simp only [known, List.getD_cons_zero, List.getD_cons_succ, Nat.reduceAdd] at hk
          simp only [List.getD_cons_zero, List.getD_cons_succ, Nat.reduceAdd, flowAt]
          go_simp
          exact ⟨Ext.refl _, by first | rfl | trivial⟩
      intro vs w1 hw hf
      simp only [flowFacts, Nat.reduceAdd] at hf
      obtain ⟨e0, e1, e2, e3, e4, e5, e6, e7, e8, -⟩ := hf
      simp only [List.take_succ_cons, List.take_zero, List.drop_succ_cons, List.drop_zero, putAll, Act.put, Nat.reduceAdd, List.setIfInBounds_toArray, List.set_cons_zero, List.set_cons_succ, e0, e1, e2, e3, e4, e5, e6, e7, e8]
      clear e0 e1 e2 e3 e4 e5 e6 e7 e8
      have HX4 := hid (HX2.out.ext ((Ext.refl _).drew.trans hw))
      have HS4 := hid (HS2.out.ext ((Ext.refl _).drew.trans hw))
      clear hw hp hq
      go_wp2_with fail
      go_returns
      exact ⟨_, rfl, ⟨p ++ q, by omega, rfl⟩, HX4.out, HS4.out.up (by omega)⟩
    · go_wp2_with fail
      go_returns
      exact ⟨_, rfl, ⟨t, by omega, rfl⟩, HX1.out, HS1.out.up (by omega)⟩
  · have m1 : (c == 1) = false := by simpa using e1
    clear e0 e1
    go_wp2_with fail
    go_returns
    exact ⟨_, rfl, ⟨t, by omega, rfl⟩, HX1.out, HS1.out.up (by omega)⟩
/-- A text for ReadBoard that is drawn. -/
def DrTx (w : World) (e : Ending) (w' : World) : Prop := ∃ y : ByteArray, y.size ≤ 2200 ∧ e = .returned (.string y) ∧ Ext w w'
theorem text_size {m : Nat} {p c : ByteArray} (h1 : 5 ≤ m) (h2 : m ≤ 15) : (textB m p c).size ≤ 1000 := by
  have h := flat_len (linesL m p c) 15 (lines_size m p c h1 h2)
  rw [lines_len] at h
  show ((linesL m p c).flatMap nl).toArray.size ≤ 1000
  simp only [List.size_toArray]
  omega
set_option maxRecDepth 100000 in
set_option maxHeartbeats 2000000 in
theorem DrawReadBoard_any (a : Option Addr) (c : Nat) (l : List UInt8) (w : World) (hr : Rd w a (bytesV l)) (hl : l.length ≤ 1048576) :
    Calls Tryz.prog 22 #[.slice a l.length c] w (DrTx w) := by
  have HR := hid hr
  clear hr
  go_enter Tryz.func22, Tryz.ntmps22
  go_wp2_with fail
  refine (l00From_any a c l _ HR.out hl).mono ?_
  rintro e w1 ⟨rfl, hx1, hs1⟩
  have HX1 := hid hx1
  obtain ⟨g, hg⟩ : ∃ g, w.heap.size = g := ⟨_, rfl⟩
  rw [hg] at hs1
  rw [hg]
  have HS1 := hid hs1
  clear hs1 hx1
  go_wp2_with fail
  refine (l11Draw_any g 0 _ HS1.out (by omega)).mono ?_
  rintro e w2 ⟨v, rfl, ⟨n, P, C, hz, rfl⟩, hE1, hS1⟩
  have HX2 := hid (HX1.out.toExt' hE1 (by omega))
  obtain ⟨B, hB⟩ : ∃ B, w2.heap.size = B := ⟨_, rfl⟩
  have hx2 : Ext w2 (w2.alloc (.cells #[.int .i64 n, .string P, .string C] 25)) := (Ext.refl w2).alloc _
  have HX3 := hid (HX2.out.trans hx2)
  have HS3 := hid (hS1.ext hx2)
  obtain ⟨m, rfl⟩ := nat_of hz.lo
  have BB3 : Hid (BdAt (w2.alloc (.cells #[.int .i64 (m : Int), .string P, .string C] 25)) B 0 m P C) := hid (by subst hB; exact ⟨by simp, by simp, by simp⟩)
  obtain ⟨s1, s2, s3, s4⟩ := hz.le
  have hsz : P.size = m * m ∧ C.size = m * m := by
    have e : ((m * m : Nat) : Int) = (m : Int) * m := by push_cast; rfl
    have e1 := hz.p
    have e2 := hz.c
    omega
  have h5 := hz.lo
  have h15 := hz.hi
  have HT := hid (fun w' (h : BdAt w' B 0 m P C) => l11Text_any B 0 m P C w' h hsz.1 hsz.2 (by omega) (by omega))
  obtain ⟨T, hT⟩ : ∃ T, textB m P C = T := ⟨_, rfl⟩
  have hTz : T.size ≤ 1000 := by rw [← hT]; exact text_size (by omega) (by omega)
  rw [hT] at HT
  clear hT hE1 hS1 hx2 hz hsz s1 s2 s3 s4 HX1 HX2 HS1
  go_wp2_with fail
  refine (HT.out _ BB3.out).mono ?_
  rintro e w3 ⟨rfl, hx⟩
  have HX4 := hid (HX3.out.trans hx)
  have HS4 := hid (HS3.out.ext hx)
  clear hx HX3 HS3 BB3 HT
  go_wp2_with fail
  refine (one_any g 40 3 _ (HS4.out.up (by omega)) (by omega)).mono ?_
  rintro e w4 ⟨v, rfl, ⟨b, rfl⟩, hE1, hS1⟩
  have HX5 := hid (HX4.out.toExt' hE1 (by omega))
  have HS5 := hid hS1
  clear hE1 hS1 HX4 HS4
  cases b
  · go_wp2_with fail
    go_returns
    exact ⟨T, by omega, rfl, HX5.out⟩
  · go_wp2_with fail
    refine (l01Spoil_any g 42 T _ (HS5.out.up (by omega)) (by omega) hTz).mono ?_
    rintro e w5 ⟨v, rfl, ⟨y, hy, rfl⟩, hE1, hS1⟩
    have HX6 := hid (HX5.out.toExt' hE1 (by omega))
    clear hE1 hS1
    go_wp2_with fail
    go_returns
    exact ⟨y, hy, rfl, HX6.out⟩
end Go.Proofs.YtmohfdfjlgekaaaGreatDoor
