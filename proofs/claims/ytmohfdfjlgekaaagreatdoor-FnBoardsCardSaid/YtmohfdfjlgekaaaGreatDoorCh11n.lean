/- Boards that are drawn. Conditions: at most 2^39 choices so far. -/
import Derived.Test.YtmohfdfjlgekaaaGreatDoorCh11m
import Derived.Test.YtmohfdfjlgekaaaGreatDoorMg11
namespace Go.Proofs.YtmohfdfjlgekaaaGreatDoor
set_option linter.unusedVariables false
set_option linter.unusedSimpArgs false
open Go Go.RowKit
def DrB (v : Value) : Prop := ∃ n p c, Bsz n p c ∧ v = boardV n p c
theorem std_sz (n : Int) (h1 : 5 ≤ n) (h2 : n ≤ 15) : Bsz n (stdS n.toNat) (freeS (n * n).toNat) := by
  obtain ⟨N, rfl⟩ : ∃ N : Nat, n = N := ⟨n.toNat, by omega⟩
  refine ⟨h1, h2, ?_, ?_⟩
  · have h := stdL_length N N
    show (((stdL _ _).toArray.size : Nat) : Int) = _
    simp [h]
  · have : 0 ≤ (N : Int) * N := Int.mul_nonneg (by omega) (by omega)
    show (((List.replicate _ _).toArray.size : Nat) : Int) = _
    simp; omega
theorem emp_sz (n : Int) (h1 : 5 ≤ n) (h2 : n ≤ 15) : Bsz n (freeS (n * n).toNat) (freeS (n * n).toNat) := by
  have := (std_sz n h1 h2).c
  exact ⟨h1, h2, this, this⟩
set_option maxHeartbeats 2000000 in
theorem l11Draw_any (g k : Nat) (w : World) (h : Src w g k) (hk : k ≤ 1099511620000) :
    Calls Tryz.prog 52 #[.pointer (some ⟨g, 0, none⟩)] w (Drew g k 40 (fun v _ => DrB v) w) := by
  have hg := h.lt
  have HS := hid h
  have HST := hid std_sz
  have HEM := hid emp_sz
  clear h
  go_enter Tryz.func52, Tryz.ntmps52
  go_wp2_with fail
  have hx0 : Ext w ((w.alloc (.cells #[.int .i64 0, .string ⟨#[]⟩, .string ⟨#[]⟩] 25)).alloc (.cells #[.int .i64 5, .int .i64 7, .int .i64 7, .int .i64 9, .int .i64 6] 2)) := ((Ext.refl w).alloc _).alloc _
  have hrd : Rd ((w.alloc (.cells #[.int .i64 0, .string ⟨#[]⟩, .string ⟨#[]⟩] 25)).alloc (.cells #[.int .i64 5, .int .i64 7, .int .i64 7, .int .i64 9, .int .i64 6] 2)) (some ⟨w.heap.size + 1, 0, none⟩) (([5, 7, 7, 9, 6] : List Int).map (Value.int .i64)) := rd_new (by simp) [.int .i64 5, .int .i64 7, .int .i64 7, .int .i64 9, .int .i64 6] 2
  refine (among_any g k (some ⟨w.heap.size + 1, 0, none⟩) 5 [5, 7, 7, 9, 6] _ (HS.out.ext hx0) (by omega) hrd (by decide) (by decide) (fun y e => by cases e; simp; omega)).mono ?_
  rintro e w1 ⟨v, rfl, ⟨x, hx, rfl⟩, hE1, hS1⟩
  have hx5 : 5 ≤ x ∧ x ≤ 15 := by simp at hx; omega
  obtain ⟨hx5, hx15⟩ := hx5
  have BR := hid (((Bk.new w 25).ext ((Ext.refl _).alloc (.cells #[.int .i64 5, .int .i64 7, .int .i64 7, .int .i64 9, .int .i64 6] 2))).exc hE1 (by omega))
  have HX1 := hid ((Exc.of_ext g (((Ext.refl w).alloc (.cells #[.int .i64 0, .string ⟨#[]⟩, .string ⟨#[]⟩] 25)).alloc (.cells #[.int .i64 5, .int .i64 7, .int .i64 7, .int .i64 9, .int .i64 6] 2))).trans hE1)
  have HS1 := hid hS1
  obtain ⟨P, C, hz, hv⟩ : ∃ P C, Bsz x P C ∧ standardV x = .tuple #[.agg #[.int .i64 x, .string P, .string C], .int .i64 0] := ⟨_, _, HST.out x hx5 hx15, by unfold standardV; rw [if_pos (by simp [inB]; omega)]⟩
  obtain ⟨P2, C2, hz2, hv2⟩ : ∃ P C, Bsz x P C ∧ emptyV x = .tuple #[.agg #[.int .i64 x, .string P, .string C], .int .i64 0] := ⟨_, _, HEM.out x hx5 hx15, by unfold emptyV; rw [if_pos (by simp [inB]; omega)]⟩
  have HSB := hid (sStandardBoard_any x)
  have HEB := hid (sEmptyBoard_any x)
  rw [hv] at HSB
  rw [hv2] at HEB
  have HZ := hid hz
  have HZ2 := hid hz2
  clear hx hv hv2 hz hz2 hE1 hS1
  go_wp2_with fail
  refine (HSB.out _).mono ?_
  rintro e w2 ⟨rfl, hx2⟩
  have hl2 := hx2.size
  have hl1 := BR.out.lt
  obtain ⟨B, hB⟩ : ∃ B, w2.heap.size = B := ⟨_, rfl⟩
  have hBR : w.heap.size < B := by omega
  have BR2 := hid (BR.out.ext (hx2.alloc (.cells #[.int .i64 x, .string P, .string C] 25)))
  have HX2 := hid (HX1.out.ext (hx2.alloc (.cells #[.int .i64 x, .string P, .string C] 25)))
  have HS2 := hid (HS1.out.ext (hx2.alloc (.cells #[.int .i64 x, .string P, .string C] 25)))
  have BB2 : Hid (Bk (w2.alloc (.cells #[.int .i64 x, .string P, .string C] 25)) B x P C) := hid (by subst hB; exact ⟨⟨by simp, by simp, by simp⟩, fun j => by simp⟩)
  clear hx2 hx0 hrd
  go_wp2_with fail
  refine (one_any g (k + 2) 4 _ HS2.out (by omega)).mono ?_
  rintro e w3 ⟨v, rfl, ⟨b1, rfl⟩, hE3, hS3⟩
  have BR3 := hid (BR2.out.exc hE3 (by omega))
  have BB3 := hid (BB2.out.exc hE3 (by omega))
  have HX3 := hid (HX2.out.trans hE3)
  have HS3 := hid hS3
  clear hE3 hS3 BR2 BB2 HX2 HS2 BR HX1 HS1 hB hl2 hl1
  cases b1
  case' false =>
    have BRq := BR3
    have BBq := BB3
    have HXq := HX3
    have HSq := HS3
    clear BR3 BB3 HX3 HS3 HZ2
    go_wp2_with fail
  case' true =>
    go_wp2_with fail
    refine (HEB.out _).mono ?_
    rintro e w4 ⟨rfl, hx4⟩
    have BR4 := hid (BR3.out.ext hx4)
    have BB4 := hid (BB3.out.ext hx4)
    have HX4 := hid (HX3.out.ext hx4)
    have HS4 := hid (HS3.out.ext hx4)
    obtain ⟨⟨b0, b1, b2⟩, bf⟩ := BB4.out
    have f0 := bf 0
    have f1 := bf 1
    have f2 := bf 2
    clear bf hx4
    go_wp2_with fail
    have BRq := hid (BR4.out.exc (exc_put3 w4 B x P2 C2) (by omega))
    have BBq := hid (BB4.out.put x P2 C2)
    have HXq := hid (HX4.out.put3 (show w.heap.size ≤ B by omega) x P2 C2)
    have HSq := hid (HS4.out.exc (exc_put3 w4 B x P2 C2) (show g < B by omega))
    change Calls _ _ _ (put3 w4 B x P2 C2) _
    clear HZ BR3 BB3 HX3 HS3 BR4 BB4 HX4 HS4 b0 b1 b2 f0 f1 f2
    have HZ := HZ2
    clear HZ2
    obtain ⟨wq, hwq⟩ : ∃ W, put3 w4 B x P2 C2 = W := ⟨_, rfl⟩
    rw [hwq] at BRq BBq HXq HSq ⊢
    clear hwq
    obtain ⟨P, hP⟩ : ∃ P', P' = P2 := ⟨_, rfl⟩
    subst hP
    obtain ⟨C, hC⟩ : ∃ C', C' = C2 := ⟨_, rfl⟩
    subst hC
  all_goals
    refine (one_any g (k + 4) 5 _ HSq.out (by omega)).mono ?_
    rintro e w5 ⟨v, rfl, ⟨c1, rfl⟩, hE5, hS5⟩
    have BR5 := hid (BRq.out.exc hE5 (by omega))
    have BB5 := hid (BBq.out.exc hE5 (by omega))
    have HX5 := hid (HXq.out.trans hE5)
    have HS5 := hid hS5
    obtain ⟨⟨r0, r1, r2⟩, rf⟩ := BR5.out
    obtain ⟨⟨b0, b1, b2⟩, bf⟩ := BB5.out
    clear hE5 hS5 BRq BBq HXq HSq
    cases c1
    · clear r0 r1 r2 rf bf
      have hBg : g < B := by omega
      have hq2 : IntKind.i64.wrap (x.tdiv 2) = x / 2 := by rw [Int.tdiv_eq_ediv_of_nonneg (by omega)]; exact IntWalk.i64_in _ (by omega)
      go_wp2_with fail
      refine wp_region_mut_at 7 5 4 (Exc g) (fun _ x y => Exc g x y ∧ Src y g (k + 8)) [fun v _ => v = .agg #[.int .i64 x, .string P, .string C], fun v _ => v = .int .i64 x, fun v _ => v = .int .i64 (x / 2), fun v _ => v = .pointer (some ⟨g, 0, none⟩), fun v w' => ∃ h, v = .slice (some ⟨h, 0, none⟩) 5 5 ∧ g < h ∧ Rd w' (some ⟨h, 0, none⟩) (([⟨#[116, 101, 115, 116, 115]⟩, ⟨#[101, 65, 116, 101, 110]⟩, ⟨#[116, 101, 110]⟩, ⟨#[97, 114, 101, 110, 97]⟩, ⟨#[110, 101, 115, 116, 115]⟩] : List ByteArray).map Value.string), fun v _ => ∃ y : ByteArray, y.size ≤ 100 ∧ v = .string y, fun v _ => ∃ q : ByteArray, (q.size : Int) = x * x ∧ v = .agg #[.int .i64 x, .string P, .string q]]
        [[(4, none)], [(3, none)], [(29, some 1)], [(0, none)], [], [(31, some 3), (32, some 4)], [(28, some 0), (30, some 2), (33, some 5)]] (by kernel_rfl) (by kernel_rfl) (by kernel_rfl) (fun _ h => Exc.of_ext g h) (fun _ _ _ _ h1 h2 h3 => ((Exc.of_ext g h1).trans h2.1).ext h3) ?_ ?_ ?_ ?_
      · intro F hF
        simp only [List.mem_cons, List.not_mem_nil, or_false] at hF
        rcases hF with rfl | rfl | rfl | rfl | rfl | rfl | rfl
        · exact fun _ _ _ h _ => h
        · exact fun _ _ _ h _ => h
        · exact fun _ _ _ h _ => h
        · exact fun _ _ _ h _ => h
        · exact fun _ _ _ ⟨h, h1, h2, h3⟩ k => ⟨h, h1, h2, h3.ext k⟩
        · exact fun _ _ _ h _ => h
        · exact fun _ _ _ h _ => h
      · intro F hF
        simp only [List.mem_cons, List.not_mem_nil, or_false] at hF
        rcases hF with rfl | rfl | rfl | rfl | rfl | rfl | rfl
        · exact fun _ _ _ _ _ h _ => h
        · exact fun _ _ _ _ _ h _ => h
        · exact fun _ _ _ _ _ h _ => h
        · exact fun _ _ _ _ _ h _ => h
        · exact fun _ _ _ _ _ ⟨h, h1, h2, h3⟩ k => ⟨h, h1, h2, k.1.rd h3 (Nat.ne_of_gt h2)⟩
        · exact fun _ _ _ _ _ h _ => h
        · exact fun _ _ _ _ _ h _ => h
      · refine ⟨?_, ?_, ?_, ?_, ?_, ?_, ?_, trivial⟩
        · rintro ρ w1 hw hcst hfn hk
          have c0 := hw.cell (b := B) (o := 0) (v := .int .i64 x) (by first | (simp [*]; done) | (simp [*, go_sem]; done) | go_cell) (by omega)
          have c1 := hw.cell (b := B) (o := 1) (v := .string P) (by first | (simp [*]; done) | (simp [*, go_sem]; done) | go_cell) (by omega)
          have c2 := hw.cell (b := B) (o := 2) (v := .string C) (by first | (simp [*]; done) | (simp [*, go_sem]; done) | go_cell) (by omega)
          clear hw
          simp only [known, List.getD_cons_zero, List.getD_cons_succ, Nat.reduceAdd] at hk
          simp only [List.getD_cons_zero, List.getD_cons_succ, Nat.reduceAdd, flowAt]
          go_simp
          exact ⟨Ext.refl _, by first | rfl | trivial⟩
        · rintro ρ w1 hw hcst hfn hk
          clear hw
          simp only [known, List.getD_cons_zero, List.getD_cons_succ, Nat.reduceAdd] at hk
          simp only [List.getD_cons_zero, List.getD_cons_succ, Nat.reduceAdd, flowAt]
          go_simp
          exact ⟨Ext.refl _, by first | rfl | trivial⟩
        · rintro ρ w1 hw hcst hfn hk
          simp only [known, List.getD_cons_zero, List.getD_cons_succ, Nat.reduceAdd] at hk
          simp only [List.getD_cons_zero, List.getD_cons_succ, Nat.reduceAdd, flowAt]
          go_simp
          exact ⟨Ext.refl _, rfl⟩
        · rintro ρ w1 hw hcst hfn hk
          clear hw
          simp only [known, List.getD_cons_zero, List.getD_cons_succ, Nat.reduceAdd] at hk
          simp only [List.getD_cons_zero, List.getD_cons_succ, Nat.reduceAdd, flowAt]
          go_simp
          exact ⟨Ext.refl _, by first | rfl | trivial⟩
        · rintro ρ w1 hw hcst hfn hk
          simp only [known, List.getD_cons_zero, List.getD_cons_succ, Nat.reduceAdd] at hk
          simp only [List.getD_cons_zero, List.getD_cons_succ, Nat.reduceAdd, flowAt]
          go_simp
          exact ⟨(Ext.refl _).alloc _, w1.heap.size, rfl, Nat.lt_of_lt_of_le HS5.out.lt hw.size, rd_new rfl [.string ⟨#[116, 101, 115, 116, 115]⟩, .string ⟨#[101, 65, 116, 101, 110]⟩, .string ⟨#[116, 101, 110]⟩, .string ⟨#[97, 114, 101, 110, 97]⟩, .string ⟨#[110, 101, 115, 116, 115]⟩] _⟩
        · rintro ρ w1 u hw hcst hfn hk hu
          replace hu := hid hu
          simp only [known, List.getD_cons_zero, List.getD_cons_succ, Nat.reduceAdd] at hk
          simp only [List.getD_cons_zero, List.getD_cons_succ, Nat.reduceAdd, flowAt]
          go_simp
          (obtain ⟨e31, ⟨h, e32, hgh, hrd⟩, -⟩ := hk; have HRD := hid hrd; clear hrd; unfold invAt execOp; go_simp; exact inv_text (HS5.out.ext ((Ext.refl _).drew.trans hw)) (by omega) (by omega) hgh rfl (by omega) (by omega) (by decide) HRD.out)
        · rintro ρ w1 hw hcst hfn hk
          simp only [known, List.getD_cons_zero, List.getD_cons_succ, Nat.reduceAdd] at hk
          simp only [List.getD_cons_zero, List.getD_cons_succ, Nat.reduceAdd, flowAt]
          go_simp
          (obtain ⟨e28, e30, ⟨y, hy, e33⟩, -⟩ := hk; rw [e33]; exact flow_laid (l11Lay_any x P C (x / 2) 0 false y _ HZ.out (by omega) (by omega) (by omega) (by omega) hy))
      intro vs wa wb w1 hwa hr hw hf
      simp only [flowFacts, Nat.reduceAdd] at hf
      obtain ⟨e0, e1, e2, e3, e4, e5, e6, -⟩ := hf
      simp only [List.take_succ_cons, List.take_zero, List.drop_succ_cons, List.drop_zero, putAll, Act.put, Nat.reduceAdd, List.setIfInBounds_toArray, List.set_cons_zero, List.set_cons_succ, e0, e1, e2, e3, e4, e5]
      clear e0 e1 e2 e3 e4 e5
      obtain ⟨q, hq, e6⟩ := e6
      rw [e6]
      obtain ⟨hrX, hrS⟩ := hr
      have hwa2 := (Ext.refl _).drew.trans hwa
      have BR6 := hid (((BR5.out.ext hwa2).exc hrX (by omega)).ext hw)
      have BB6 := hid (((BB5.out.ext hwa2).exc hrX (by omega)).ext hw)
      have HX6 := hid (((HX5.out.ext hwa2).trans hrX).ext hw)
      have HS6 := hid (hrS.ext hw)
      have HQ := hid hq
      have HBP := hid HZ.out.p
      clear hwa hwa2 hrX hrS hw b0 b1 b2 e6 hq BR5 BB5 HX5 HS5 hq2
      obtain ⟨⟨b0, b1, b2⟩, bf⟩ := BB6.out
      have f0 := bf 0
      have f1 := bf 1
      have f2 := bf 2
      clear bf
      go_wp2_with fail
      have BR7 := hid (BR6.out.exc (exc_put3 _ B x P q) (by omega))
      have BB7 := hid (BB6.out.put x P q)
      have HX7 := hid (HX6.out.put3 (show w.heap.size ≤ B by omega) x P q)
      have HS7 := hid (HS6.out.exc (exc_put3 _ B x P q) (show g < B by omega))
      change Calls _ _ _ (put3 _ B x P q) _
      clear b0 b1 b2 f0 f1 f2 BR6 BB6 HX6 HS6
      refine (pick_any g (k + 8) 3 _ HS7.out (by omega)).mono ?_
      rintro e w6 ⟨v, rfl, ⟨m, hm0, hm1, rfl⟩, hE6, hS6⟩
      obtain ⟨j0, rfl⟩ : ∃ j : Nat, m = (j : Int) := ⟨m.toNat, by omega⟩
      have BR8 := hid (BR7.out.exc hE6 (by omega))
      have BB8 := hid (BB7.out.exc hE6 (by omega))
      have HX8 := hid (HX7.out.trans hE6)
      have HS8 := hid hS6
      have hj0 : j0 ≤ 2 := by omega
      clear hE6 hS6 BR7 BB7 HX7 HS7 hm0 hm1
      go_wp2_with fail
      go_loopw [6] (fun v wr => ∃ (j : Nat) (q : ByteArray), j ≤ 2 ∧ v = .int .i64 (j : Int) ∧ Hid ((q.size : Int) = x * x) ∧ Hid (Bk wr w.heap.size 0 ⟨#[]⟩ ⟨#[]⟩) ∧ Hid (Bk wr B x P q) ∧ Hid (Exc g w wr) ∧ Hid (Src wr g (k + 10 + 8 * (2 - j)))) (fun v _ => (intOf v).toNat)
      case atStart => exact ⟨j0, q, hj0, rfl, HQ, BR8, BB8, HX8, hid (HS8.out.up (by omega))⟩
      case round =>
        obtain ⟨j, q1, hj, rfl, HQ1, BR, BB, HX, HS9⟩ := hrel
        obtain ⟨K, hK⟩ : ∃ K, k + 10 + 8 * (2 - j) = K := ⟨_, rfl⟩
        have hK2 : K + 8 ≤ 1099511627000 := by omega
        have hK3 : 1 ≤ j → K + 8 ≤ k + 10 + 8 * (2 - (j - 1)) := by omega
        have hK4 : K ≤ k + 40 := by omega
        rw [hK] at HS9
        clear hK
        by_cases hj1 : 0 < j
        · have hj2 : (0 : Int) < (j : Int) := by omega
          have hK5 := hK3 hj1
          clear hK3
          go_wp2_with fail
          refine (pick_any g K x _ HS9.out (by omega)).mono ?_
          rintro e w7 ⟨v, rfl, ⟨cc, hc0, hc1, rfl⟩, hE7, hS7⟩
          have BRa := hid (BR.out.exc hE7 (by omega))
          have BBa := hid (BB.out.exc hE7 (by omega))
          have HXa := hid (HX.out.trans hE7)
          have HSa := hid hS7
          clear hE7 hS7
          go_wp2_with fail
          refine (pick_any g (K + 2) x _ HSa.out (by omega)).mono ?_
          rintro e w8 ⟨v, rfl, ⟨rr, hr0, hr1, rfl⟩, hE8, hS8⟩
          have BRb := hid (BRa.out.exc hE8 (by omega))
          have BBb := hid (BBa.out.exc hE8 (by omega))
          have HXb := hid (HXa.out.trans hE8)
          have HSb := hid hS8
          clear hE8 hS8
          go_wp2_with fail
          refine (text_new g (K + 2 + 2) 7 [⟨#[101, 97, 116]⟩, ⟨#[115, 101, 116]⟩, ⟨#[116, 69, 110]⟩, ⟨#[110, 101, 115, 116, 115]⟩, ⟨#[97, 110]⟩, ⟨#[115]⟩, ⟨#[97, 116]⟩] w8 HSb.out (by omega) rfl (by omega) (by omega) (by decide)).mono ?_
          rintro e w9 ⟨v, rfl, ⟨y, hy, rfl⟩, hE9, hS9⟩
          have hx9 : Ext w8 (w8.alloc (.cells (([⟨#[101, 97, 116]⟩, ⟨#[115, 101, 116]⟩, ⟨#[116, 69, 110]⟩, ⟨#[110, 101, 115, 116, 115]⟩, ⟨#[97, 110]⟩, ⟨#[115]⟩, ⟨#[97, 116]⟩] : List ByteArray).map Value.string).toArray 9)) := (Ext.refl w8).alloc _
          have BRc := hid ((BRb.out.ext hx9).exc hE9 (by omega))
          have BBc := hid ((BBb.out.ext hx9).exc hE9 (by omega))
          have HXc := hid ((HXb.out.ext hx9).trans hE9)
          have HSc := hid hS9
          obtain ⟨⟨b0, b1, b2⟩, bf⟩ := BBc.out
          clear hE9 hS9 hx9 bf BR BB HX HS9 BRa BBa HXa HSa BRb BBb HXb HSb
          have hr9 : rr ≤ 100 := by omega
          have hc9 : cc ≤ 100 := by omega
          clear hr1 hc1
          go_wp2_with fail
          refine wp_region_mut_at 7 4 3 (Exc g) (fun _ x y => Exc g x y ∧ Src y g (K + 8)) [fun v _ => v = .agg #[.int .i64 x, .string P, .string q1], fun v _ => v = .int .i64 rr, fun v _ => v = .int .i64 cc, fun v _ => v = .pointer (some ⟨g, 0, none⟩), fun v _ => ∃ b : Bool, v = .bool b, fun v _ => v = .string y, fun v _ => ∃ q : ByteArray, (q.size : Int) = x * x ∧ v = .agg #[.int .i64 x, .string P, .string q]]
            [[(4, none)], [(8, none)], [(7, none)], [(0, none)], [(53, some 3)], [(9, none)], [(50, some 0), (51, some 1), (52, some 2), (54, some 4), (55, some 5)]] (by kernel_rfl) (by kernel_rfl) (by kernel_rfl) (fun _ h => Exc.of_ext g h) (fun _ _ _ _ h1 h2 h3 => ((Exc.of_ext g h1).trans h2.1).ext h3) ?_ ?_ ?_ ?_
          · intro F hF
            simp only [List.mem_cons, List.not_mem_nil, or_false] at hF
            rcases hF with rfl | rfl | rfl | rfl | rfl | rfl | rfl <;> exact fun _ _ _ h _ => h
          · intro F hF
            simp only [List.mem_cons, List.not_mem_nil, or_false] at hF
            rcases hF with rfl | rfl | rfl | rfl | rfl | rfl | rfl <;> exact fun _ _ _ _ _ h _ => h
          · refine ⟨?_, ?_, ?_, ?_, ?_, ?_, ?_, trivial⟩
            · rintro ρ w1 hw hcst hfn hk
              have c0 := hw.cell (b := B) (o := 0) (v := .int .i64 x) (by first | (simp [*]; done) | (simp [*, go_sem]; done) | go_cell) (by omega)
              have c1 := hw.cell (b := B) (o := 1) (v := .string P) (by first | (simp [*]; done) | (simp [*, go_sem]; done) | go_cell) (by omega)
              have c2 := hw.cell (b := B) (o := 2) (v := .string q1) (by first | (simp [*]; done) | (simp [*, go_sem]; done) | go_cell) (by omega)
              clear hw
              simp only [known, List.getD_cons_zero, List.getD_cons_succ, Nat.reduceAdd] at hk
              simp only [List.getD_cons_zero, List.getD_cons_succ, Nat.reduceAdd, flowAt]
              go_simp
              exact ⟨Ext.refl _, by first | rfl | trivial⟩
            · rintro ρ w1 hw hcst hfn hk
              clear hw
              simp only [known, List.getD_cons_zero, List.getD_cons_succ, Nat.reduceAdd] at hk
              simp only [List.getD_cons_zero, List.getD_cons_succ, Nat.reduceAdd, flowAt]
              go_simp
              exact ⟨Ext.refl _, by first | rfl | trivial⟩
            · rintro ρ w1 hw hcst hfn hk
              clear hw
              simp only [known, List.getD_cons_zero, List.getD_cons_succ, Nat.reduceAdd] at hk
              simp only [List.getD_cons_zero, List.getD_cons_succ, Nat.reduceAdd, flowAt]
              go_simp
              exact ⟨Ext.refl _, by first | rfl | trivial⟩
            · rintro ρ w1 hw hcst hfn hk
              clear hw
              simp only [known, List.getD_cons_zero, List.getD_cons_succ, Nat.reduceAdd] at hk
              simp only [List.getD_cons_zero, List.getD_cons_succ, Nat.reduceAdd, flowAt]
              go_simp
              exact ⟨Ext.refl _, by first | rfl | trivial⟩
            · rintro ρ w1 u hw hcst hfn hk hu
              replace hu := hid hu
              simp only [known, List.getD_cons_zero, List.getD_cons_succ, Nat.reduceAdd] at hk
              simp only [List.getD_cons_zero, List.getD_cons_succ, Nat.reduceAdd, flowAt]
              go_simp
              (obtain ⟨e53, -⟩ := hk; unfold invAt execOp; go_simp; exact inv_drew (one_any g (K + 2 + 2 + 2) 2 _ (HSc.out.ext ((Ext.refl _).drew.trans hw)) (by omega)) (by omega) (fun v _ ⟨b, e⟩ => by subst e; cases b <;> simp))
            · rintro ρ w1 hw hcst hfn hk
              clear hw
              simp only [known, List.getD_cons_zero, List.getD_cons_succ, Nat.reduceAdd] at hk
              simp only [List.getD_cons_zero, List.getD_cons_succ, Nat.reduceAdd, flowAt]
              go_simp
              exact ⟨Ext.refl _, by first | rfl | trivial⟩
            · rintro ρ w1 hw hcst hfn hk
              simp only [known, List.getD_cons_zero, List.getD_cons_succ, Nat.reduceAdd] at hk
              simp only [List.getD_cons_zero, List.getD_cons_succ, Nat.reduceAdd, flowAt]
              go_simp
              (obtain ⟨e50, e51, e52, ⟨d, e54⟩, e55, -⟩ := hk; rw [e54]; exact flow_laid (l11Lay_any x P q1 rr cc d y _ ⟨hx5, hx15, HBP.out, HQ1.out⟩ (by omega) (by omega) (by omega) (by omega) hy))
          intro vs wa wb w1 hwa hr hw hf
          simp only [flowFacts, Nat.reduceAdd] at hf
          obtain ⟨e0, e1, e2, e3, e4, e5, e6, -⟩ := hf
          simp only [List.take_succ_cons, List.take_zero, List.drop_succ_cons, List.drop_zero, putAll, Act.put, Nat.reduceAdd, List.setIfInBounds_toArray, List.set_cons_zero, List.set_cons_succ, e0, e1, e2, e3, e4, e5]
          clear e0 e1 e2 e3 e4 e5
          obtain ⟨q2, hq2, e6⟩ := e6
          rw [e6]
          obtain ⟨hrX, hrS⟩ := hr
          have hwa2 := (Ext.refl _).drew.trans hwa
          have BRd := hid (((BRc.out.ext hwa2).exc hrX (by omega)).ext hw)
          have BBd := hid (((BBc.out.ext hwa2).exc hrX (by omega)).ext hw)
          have HXd := hid (((HXc.out.ext hwa2).trans hrX).ext hw)
          have HSd := hid (hrS.ext hw)
          have HQ2 := hid hq2
          clear hwa hwa2 hrX hrS hw b0 b1 b2 e6 hq2 BRc BBc HXc HSc
          obtain ⟨⟨b0, b1, b2⟩, bf⟩ := BBd.out
          have f0 := bf 0
          have f1 := bf 1
          have f2 := bf 2
          clear bf
          go_wp2_with fail
          go_roundw
          case rel => exact ⟨j - 1, q2, by omega, by rw [show (((j - 1 : Nat) : Int)) = (j : Int) - 1 by omega], HQ2, hid (BRd.out.exc (exc_put3 _ B x P q2) (by omega)), hid (BBd.out.put x P q2), hid (HXd.out.put3 (show w.heap.size ≤ B by omega) x P q2), hid ((HSd.out.exc (exc_put3 _ B x P q2) (show g < B by omega)).up hK5)⟩
          case measure => simp [intOf]; omega
        · obtain rfl : j = 0 := by omega
          obtain ⟨⟨r0, r1, r2⟩, rf⟩ := BR.out
          obtain ⟨⟨b0, b1, b2⟩, bf⟩ := BB.out
          have rf0 := rf 0
          have rf1 := rf 1
          have rf2 := rf 2
          clear rf bf
          go_wp2_with fail
          refine bodyPost_ret (v := boardV x P q1) (by simp [results, Tryz.results52, go_sem, r0, r1, r2, rf0, rf1, rf2, boardV]) rfl ⟨_, rfl, ⟨x, P, q1, ⟨hx5, hx15, HBP.out, HQ1.out⟩, rfl⟩, HX.out.put3 (Nat.le_refl _) x P q1, (HS9.out.exc (exc_put3 _ w.heap.size x P q1) hg).up hK4⟩
    · have rf0 := rf 0
      have rf1 := rf 1
      have rf2 := rf 2
      clear rf bf
      go_wp2_with fail
      refine bodyPost_ret (v := boardV x P C) (by simp [results, Tryz.results52, go_sem, r0, r1, r2, rf0, rf1, rf2, boardV]) rfl ⟨_, rfl, ⟨x, P, C, HZ.out, rfl⟩, HX5.out.put3 (Nat.le_refl _) x P C, (HS5.out.exc (exc_put3 w5 w.heap.size x P C) hg).up (by omega)⟩
end Go.Proofs.YtmohfdfjlgekaaaGreatDoor
