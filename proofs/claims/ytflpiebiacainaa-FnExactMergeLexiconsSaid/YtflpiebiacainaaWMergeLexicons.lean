import Derived.Test.YtflpiebiacainaaCh05l
import Derived.Test.YtflpiebiacainaaStoreX
import Derived.Test.YtflpiebiacainaaLexC
import Derived.Test.YtflpiebiacainaaRow2
namespace Go.Proofs.Ytflpiebiacainaa
set_option linter.unusedVariables false
set_option linter.unusedSimpArgs false
open Go Go.RowKit Go.ChangeShapes Go.WideShapes Go.ChangeAt
open Go.ChangeMaps (open_string shut_string)

set_option maxRecDepth 100000 in
set_option maxHeartbeats 8000000 in
theorem walk_FnExactMergeLexicons (a : Option Addr) (c : Nat) (l : List ByteArray) (b : Option Addr) (d : Nat) (m : List ByteArray) (w : World) (hr : Rd w a (strsV l)) (hl' : l.length ≤ maxLen) (hs' : ∀ s ∈ l, s.size ≤ maxLen) (hq : Rd w b (strsV m)) (hm' : m.length ≤ maxLen) (ht' : ∀ s ∈ m, s.size ≤ maxLen) :
    Calls Try.prog 5 #[lexV a l.length c, lexV b m.length d] w (Ret (.bool true) w) := by
  have HRD : Hid (∀ w', Ext w w' → Rd w' a (strsV l)) := hid (fun w' k => hr.ext k)
  have HRE : Hid (∀ w', Ext w w' → Rd w' b (strsV m)) := hid (fun w' k => hq.ext k)
  have T1 : LkT (w.alloc (.cells #[.slice a l.length c] 24)) w.heap.size 24 (.slice a l.length c) := LkT.new _ _ _
  have T2 : LkT ((w.alloc (.cells #[.slice a l.length c] 24)).alloc (.cells #[.slice b m.length d] 24)) (w.heap.size + 1) 24 (.slice b m.length d) := by
    have := LkT.new (w.alloc (.cells #[.slice a l.length c] 24)) 24 (.slice b m.length d)
    rwa [World.size_alloc] at this
  have HL1 := hid (T1.ext ((Ext.refl _).alloc (.cells #[.slice b m.length d] 24)))
  have HL2 := hid T2
  clear T1 T2
  go_enter Try.func5, Try.ntmps5
  go_wp2_with fail
  refine (szLexicon_any a c l _ _ (HRD.out _ (((Ext.refl w).alloc _).alloc _)) hl' hs' (by omega) (by omega)).mono ?_
  rintro e wA ⟨rfl, hx⟩
  have hE := (((Ext.refl w).alloc _).alloc _).trans hx
  have b0 := (HL1.out.ext hx).cell
  have b1 := (HL2.out.ext hx).cell
  clear hx hr hl' hs' hq HL1 HL2
  by_cases hn : szX 1048576 l < 0
  · go_wp2_with fail
    go_returns
    exact ⟨rfl, hE⟩
  obtain ⟨z1, z2⟩ := szX_ok (by omega) hn
  obtain ⟨z, hz⟩ : ∃ z, szX 1048576 l = z := ⟨_, rfl⟩
  rw [hz] at hn z2 ⊢
  have z3 : z ≤ 1048576 := by omega
  have Z2 := hid z2
  clear hz z2
  go_wp2_with fail
  refine (szLexicon_any b d m _ _ (HRE.out _ hE) hm' ht' (by omega) (by omega)).mono ?_
  rintro e wB ⟨rfl, hx⟩
  replace hE := hE.trans hx
  replace b0 := hx.cell b0
  replace b1 := hx.cell b1
  clear hx hm' ht'
  by_cases hn2 : szX z m < 0
  · go_wp2_with fail
    go_returns
    exact ⟨rfl, hE⟩
  obtain ⟨y1, y2⟩ := szX_ok (by omega) hn2
  obtain ⟨y, hy⟩ : ∃ y, szX z m = y := ⟨_, rfl⟩
  rw [hy] at hn2 ⊢
  have z2 := Z2.out
  clear hy y2
  have hl : l.length ≤ 1048576 := by omega
  have hm : m.length ≤ 1048576 := by omega
  have hlm : l.length + m.length ≤ 1048576 := by omega
  have hs : ∀ s ∈ l, s.size ≤ 1048576 := fun s h => by have := sumL_mem h; omega
  have ht : ∀ s ∈ m, s.size ≤ 1048576 := fun s h => by have := sumL_mem h; omega
  obtain ⟨V, hV⟩ : ∃ V, merX l m = V := ⟨_, rfl⟩
  obtain ⟨K, hK⟩ : ∃ K, merC l m = K := ⟨_, rfl⟩
  have HB : Hid (V.length ≤ 1048576) := hid (by rw [← hV]; exact merX_le l m hlm)
  have HS := hid (fun a b c d w h h' => sMergeLexicons_any a b c d l m w h h' hlm hs ht)
  have HI := hid (fun a b c d w h h' => MergeLexicons_any a b c d l m w h h' hlm hs ht)
  rw [hV, hK] at HS HI
  clear hV hK z1 z2 y1 hs ht Z2
  go_wp2_with fail
  have hsz := hE.size
  have hlb1 := World.block_lt_of_cell? _ _ b1
  have hZ8 : wB.drew.heap.size = wB.heap.size := rfl
  refine wp_region_mut_at 10 9 8 (Ext) (PutX wB.heap.size V) [fun v _ => v = .agg #[.slice a l.length c], fun v w' => LexIs l v w', fun v _ => v = .agg #[.slice b m.length d], fun v w' => LexIs m v w', fun v w' => TuA V K wB.heap.size v w', fun v w' => TuA V K wB.heap.size v w', fun v w' => LeA V wB.heap.size v w', fun v _ => v = .int .i64 K, SlotX wB.heap.size, fun _ _ => True]
    [[(2, none)], [(28, some 0)], [(3, none)], [(30, some 2)], [(29, some 1), (31, some 3)], [(32, some 4)], [(27, some 5)], [(27, some 5)], [], [(6, some 8), (33, some 6)]] (by kernel_rfl) (by kernel_rfl) (by kernel_rfl) (fun _ h => h) (fun _ _ _ _ h1 h2 h3 => (h2.toExt h1 hZ8).trans h3) ?_ ?_ ?_ ?_
  · intro F hF
    simp only [List.mem_cons, List.not_mem_nil, or_false] at hF
    rcases hF with rfl | rfl | rfl | rfl | rfl | rfl | rfl | rfl | rfl | rfl
    · exact fun _ _ _ h _ => h
    · exact fun _ _ _ h k => h.ext k
    · exact fun _ _ _ h _ => h
    · exact fun _ _ _ h k => h.ext k
    · exact fun _ _ _ h k => h.ext k
    · exact fun _ _ _ h k => h.ext k
    · exact fun _ _ _ h k => h.ext k
    · exact fun _ _ _ h _ => h
    · exact fun _ _ _ h k => h.ext k
    · exact fun _ _ _ h _ => h
  · intro F hF
    simp only [List.mem_cons, List.not_mem_nil, or_false] at hF
    rcases hF with rfl | rfl | rfl | rfl | rfl | rfl | rfl | rfl | rfl | rfl
    · exact fun _ _ _ _ _ h _ => h
    · exact fun _ _ _ _ _ h k => LexIs.putX h k
    · exact fun _ _ _ _ _ h _ => h
    · exact fun _ _ _ _ _ h k => h.putX k
    · exact fun _ _ _ _ _ h k => h.putX k
    · exact fun _ _ _ _ _ h k => h.putX k
    · exact fun _ _ _ _ _ h k => h.putX k
    · exact fun _ _ _ _ _ h _ => h
    · exact fun _ _ _ _ _ h k => h.put k
    · exact fun _ _ _ _ _ h _ => h
  · refine ⟨?_, ?_, ?_, ?_, ?_, ?_, ?_, ?_, ?_, ?_, trivial⟩
    · rintro ρ w1 hw hcst hfn hk
      have c0 := hw.cell (b := w.heap.size) (o := 0) (v := .slice a l.length c) (by first | (simp [*]; done) | (simp [*, go_sem]; done) | go_cell)
      clear hw
      simp only [known, List.getD_cons_zero, List.getD_cons_succ, Nat.reduceAdd] at hk
      simp only [List.getD_cons_zero, List.getD_cons_succ, Nat.reduceAdd, flowAt]
      go_simp
      exact ⟨Ext.refl _, by first | rfl | trivial⟩
    · rintro ρ w1 hw hcst hfn hk
      simp only [known, List.getD_cons_zero, List.getD_cons_succ, Nat.reduceAdd] at hk
      simp only [List.getD_cons_zero, List.getD_cons_succ, Nat.reduceAdd, flowAt]
      go_simp
      exact flow_lex (toLexicon_any a c l _ (HRD.out _ (hE.trans ((Ext.refl _).drew.trans hw))) hl)
    · rintro ρ w1 hw hcst hfn hk
      have c0 := hw.cell (b := (w.heap.size + 1)) (o := 0) (v := .slice b m.length d) (by first | (simp [*]; done) | (simp [*, go_sem]; done) | go_cell)
      clear hw
      simp only [known, List.getD_cons_zero, List.getD_cons_succ, Nat.reduceAdd] at hk
      simp only [List.getD_cons_zero, List.getD_cons_succ, Nat.reduceAdd, flowAt]
      go_simp
      exact ⟨Ext.refl _, by first | rfl | trivial⟩
    · rintro ρ w1 hw hcst hfn hk
      simp only [known, List.getD_cons_zero, List.getD_cons_succ, Nat.reduceAdd] at hk
      simp only [List.getD_cons_zero, List.getD_cons_succ, Nat.reduceAdd, flowAt]
      go_simp
      exact flow_lex (toLexicon_any b d m _ (HRE.out _ (hE.trans ((Ext.refl _).drew.trans hw))) hm)
    · rintro ρ w1 hw hcst hfn hk
      simp only [known, List.getD_cons_zero, List.getD_cons_succ, Nat.reduceAdd] at hk
      simp only [List.getD_cons_zero, List.getD_cons_succ, Nat.reduceAdd, flowAt]
      go_simp
      (obtain ⟨a5, c5, e5, r5⟩ := hk.1; obtain ⟨a6, c6, e6, r6⟩ := hk.2.1; rw [e5, e6]; exact flow_ra (HS.out a5 a6 c5 c6 _ r5 r6) hw.size)
    · rintro ρ w1 hw hcst hfn hk
      simp only [known, List.getD_cons_zero, List.getD_cons_succ, Nat.reduceAdd] at hk
      simp only [List.getD_cons_zero, List.getD_cons_succ, Nat.reduceAdd, flowAt]
      go_simp
      exact ⟨Ext.refl _, hk.1⟩
    · rintro ρ w1 hw hcst hfn hk
      simp only [known, List.getD_cons_zero, List.getD_cons_succ, Nat.reduceAdd] at hk
      simp only [List.getD_cons_zero, List.getD_cons_succ, Nat.reduceAdd, flowAt]
      go_simp
      (obtain ⟨a5, c5, e5, r5⟩ := hk.1; rw [e5]; exact ⟨Ext.refl _, a5, c5, rfl, r5⟩)
    · rintro ρ w1 hw hcst hfn hk
      simp only [known, List.getD_cons_zero, List.getD_cons_succ, Nat.reduceAdd] at hk
      simp only [List.getD_cons_zero, List.getD_cons_succ, Nat.reduceAdd, flowAt]
      go_simp
      (obtain ⟨a5, c5, e5, r5⟩ := hk.1; rw [e5]; exact ⟨Ext.refl _, rfl⟩)
    · rintro ρ w1 hw hcst hfn hk
      simp only [known, List.getD_cons_zero, List.getD_cons_succ, Nat.reduceAdd] at hk
      simp only [List.getD_cons_zero, List.getD_cons_succ, Nat.reduceAdd, flowAt]
      go_simp
      exact ⟨(Ext.refl _).alloc _, slotX_new _ _ hw.size⟩
    · rintro ρ w1 u hw hcst hfn hk hu
      replace hu := hid hu
      simp only [known, List.getD_cons_zero, List.getD_cons_succ, Nat.reduceAdd] at hk
      simp only [List.getD_cons_zero, List.getD_cons_succ, Nat.reduceAdd, flowAt]
      go_simp
      exact invAt_storeX rfl hk.1 hk.2.1 (hu.out 6 (by simp))
  intro vs wa wb w1 hwa hr hw hf
  simp only [flowFacts, Nat.reduceAdd] at hf
  obtain ⟨e0, e1, e2, e3, e4, e5, e6, e7, e8, e9, -⟩ := hf
  simp only [List.take_succ_cons, List.take_zero, List.drop_succ_cons, List.drop_zero, putAll, Act.put, Nat.reduceAdd, List.setIfInBounds_toArray, List.set_cons_zero, List.set_cons_succ, e0, e2, e7, e9]
  clear e0 e2 e7 e9
  obtain ⟨g, a2, c2, e8', hgB, hg, i2⟩ := hr.box hw
  have hx := (Ext.refl wB).drew.trans ((hr.toExt hwa hZ8).trans hw)
  rw [e8']
  replace hE := hE.trans hx
  replace b0 := hx.cell b0
  replace b1 := hx.cell b1
  have x6 := hg.cell
  have hsz3 := hx.size
  have hgl := hg.lt
  have I2 := hid i2
  clear hx hw hwa hr e1 e3 e4 e5 e6 e8 e8' i2 hg
  obtain ⟨w3, hw3⟩ : ∃ w3, w3 = w1 := ⟨_, rfl⟩
  subst hw3
  have hlb1 := World.block_lt_of_cell? _ _ b1
  have hlb0 := World.block_lt_of_cell? _ _ b0
  have hl6 := World.block_lt_of_cell? _ _ x6
  -- the copies
  go_wp2_with fail
  refine (toLexicon_any a c l _ (HRD.out _ hE) hl).mono ?_
  rintro e w4 ⟨a3, c3, rfl, ho3, hx⟩
  have I3 := hid ho3.inR
  have hz3 := hx.size
  replace b0 := hx.cell b0
  replace b1 := hx.cell b1
  replace x6 := hx.cell x6
  replace hE := hE.trans hx
  replace I2 := hid (I2.out.ext hx)
  clear hx ho3 hlb0 hlb1 hl6
  have hlb0 := World.block_lt_of_cell? _ _ b0
  have hlb1 := World.block_lt_of_cell? _ _ b1
  have hl6 := World.block_lt_of_cell? _ _ x6
  go_wp2_with fail
  refine (toLexicon_any b d m _ (HRE.out _ (hE.trans ((Ext.refl w4).alloc _))) hm).mono ?_
  rintro e w5 ⟨a4, c4, rfl, ho4, hx⟩
  have x8 := hx.cell (b := w4.heap.size) (o := 0) (v := .slice a3 l.length c3) (by simp)
  have I4 := hid ho4.inR
  have hz4 := hx.size
  simp only [World.size_alloc] at hz4
  rw [World.size_alloc] at I4
  replace hx := ((Ext.refl w4).alloc _).trans hx
  replace b0 := hx.cell b0
  replace b1 := hx.cell b1
  replace x6 := hx.cell x6
  replace hE := hE.trans hx
  replace I2 := hid (I2.out.ext hx)
  replace I3 := hid (I3.out.ext hx)
  clear hx ho4 hlb0 hlb1 hl6
  have hlb0 := World.block_lt_of_cell? _ _ b0
  have hlb1 := World.block_lt_of_cell? _ _ b1
  have hl6 := World.block_lt_of_cell? _ _ x6
  have hl8 := World.block_lt_of_cell? _ _ x8
  -- the program
  go_wp2_with fail
  refine (HI.out _ _ _ _ _ (I3.out.ext ((Ext.refl w5).alloc (.cells #[.slice a4 m.length c4] 26))).rd (I4.out.ext ((Ext.refl w5).alloc (.cells #[.slice a4 m.length c4] 26))).rd).mono ?_
  rintro e w6 ⟨a5, c5, rfl, I5', hx⟩
  have x9 := hx.cell (b := w5.heap.size) (o := 0) (v := .slice a4 m.length c4) (by simp)
  have hz5 := hx.size
  simp only [World.size_alloc] at hz5
  rw [World.size_alloc] at I5'
  have I5 := hid I5'
  replace hx := ((Ext.refl w5).alloc _).trans hx
  replace b0 := hx.cell b0
  replace b1 := hx.cell b1
  replace x6 := hx.cell x6
  replace x8 := hx.cell x8
  replace hE := hE.trans hx
  replace I2 := hid (I2.out.ext hx)
  replace I3 := hid (I3.out.ext hx)
  replace I4 := hid (I4.out.ext hx)
  clear hx I5' hlb0 hlb1 hl6 hl8
  have hlb0 := World.block_lt_of_cell? _ _ b0
  have hlb1 := World.block_lt_of_cell? _ _ b1
  have hl6 := World.block_lt_of_cell? _ _ x6
  have hl8 := World.block_lt_of_cell? _ _ x8
  have hl9 := World.block_lt_of_cell? _ _ x9
  go_wp2_with fail
  refine (eqLexicon_self a5 a2 c5 c2 V _ (I5.out.ext ((Ext.refl w6).alloc (.cells #[.slice a5 V.length c5] 26))).rd (I2.out.ext ((Ext.refl w6).alloc (.cells #[.slice a5 V.length c5] 26))).rd HB.out).mono ?_
  rintro e w7 ⟨rfl, hx⟩
  have x10 := hx.cell (b := w6.heap.size) (o := 0) (v := .slice a5 V.length c5) (by simp)
  have hz6 := hx.size
  simp only [World.size_alloc] at hz6
  replace hx := ((Ext.refl w6).alloc _).trans hx
  replace b0 := hx.cell b0
  replace b1 := hx.cell b1
  replace x6 := hx.cell x6
  replace x8 := hx.cell x8
  replace x9 := hx.cell x9
  replace hE := hE.trans hx
  replace I2 := hid (I2.out.ext hx)
  replace I3 := hid (I3.out.ext hx)
  replace I4 := hid (I4.out.ext hx)
  replace I5 := hid (I5.out.ext hx)
  clear hx
  go_wp2_with fail
  refine wp_region_flow_at (C := Ext) 4 [fun v _ => v = .agg #[.slice a3 l.length c3], fun v _ => v = .agg #[.slice a l.length c], fun v w' => LexIs l v w', fun v _ => v = .bool true]
    [[(8, none)], [(2, none)], [(55, some 1)], [(54, some 0), (56, some 2)]] (by kernel_rfl) (by kernel_rfl) Ext.refl (fun _ _ _ => Ext.trans) ?_ ?_ ?_
  · intro F hF
    simp only [List.mem_cons, List.not_mem_nil, or_false] at hF
    rcases hF with rfl | rfl | rfl | rfl
    · exact fun _ _ _ h _ => h
    · exact fun _ _ _ h _ => h
    · exact fun _ _ _ h k => h.ext k
    · exact fun _ _ _ h _ => h
  · refine ⟨?_, ?_, ?_, ?_, trivial⟩
    · rintro ρ w1 hw hcst hfn hk
      have c0 := hw.cell (b := w4.heap.size) (o := 0) (v := .slice a3 l.length c3) (by first | (simp [*]; done) | (simp [*, go_sem]; done) | go_cell)
      clear hw
      simp only [known, List.getD_cons_zero, List.getD_cons_succ, Nat.reduceAdd] at hk
      simp only [List.getD_cons_zero, List.getD_cons_succ, Nat.reduceAdd, flowAt]
      go_simp
      exact ⟨Ext.refl _, by first | rfl | trivial⟩
    · rintro ρ w1 hw hcst hfn hk
      have c0 := hw.cell (b := w.heap.size) (o := 0) (v := .slice a l.length c) (by first | (simp [*]; done) | (simp [*, go_sem]; done) | go_cell)
      clear hw
      simp only [known, List.getD_cons_zero, List.getD_cons_succ, Nat.reduceAdd] at hk
      simp only [List.getD_cons_zero, List.getD_cons_succ, Nat.reduceAdd, flowAt]
      go_simp
      exact ⟨Ext.refl _, by first | rfl | trivial⟩
    · rintro ρ w1 hw hcst hfn hk
      simp only [known, List.getD_cons_zero, List.getD_cons_succ, Nat.reduceAdd] at hk
      simp only [List.getD_cons_zero, List.getD_cons_succ, Nat.reduceAdd, flowAt]
      go_simp
      exact flow_lex (toLexicon_any a c l _ (HRD.out _ (hE.trans ((Ext.refl _).drew.trans hw))) hl)
    · rintro ρ w1 hw hcst hfn hk
      simp only [known, List.getD_cons_zero, List.getD_cons_succ, Nat.reduceAdd] at hk
      simp only [List.getD_cons_zero, List.getD_cons_succ, Nat.reduceAdd, flowAt]
      go_simp
      (obtain ⟨a6, c6, e5, r5⟩ := hk.2.1; rw [e5]; exact flow_ret (eqLexicon_self a3 a6 c3 c6 l _ (I3.out.ext ((Ext.refl _).drew.trans hw)).rd r5 hl))
  intro vs w1 hw hf
  simp only [flowFacts, Nat.reduceAdd] at hf
  obtain ⟨e0, e1, e2, e3, -⟩ := hf
  simp only [List.take_succ_cons, List.take_zero, List.drop_succ_cons, List.drop_zero, putAll, Act.put, Nat.reduceAdd, List.setIfInBounds_toArray, List.set_cons_zero, List.set_cons_succ, e0, e1, e2, e3]
  clear e0 e1 e2 e3
  replace hx := (Ext.refl _).drew.trans hw
  clear hw
  replace b0 := hx.cell b0
  replace b1 := hx.cell b1
  replace x6 := hx.cell x6
  replace x8 := hx.cell x8
  replace x9 := hx.cell x9
  replace x10 := hx.cell x10
  replace hE := hE.trans hx
  have hz7 := hx.size
  replace I2 := hid (I2.out.ext hx)
  replace I3 := hid (I3.out.ext hx)
  replace I4 := hid (I4.out.ext hx)
  replace I5 := hid (I5.out.ext hx)
  clear hx
  obtain ⟨w8, hw8⟩ : ∃ w8, w8 = w1 := ⟨_, rfl⟩
  subst hw8
  go_wp2_with fail
  refine wp_region_flow_at (C := Ext) 4 [fun v _ => v = .agg #[.slice a4 m.length c4], fun v _ => v = .agg #[.slice b m.length d], fun v w' => LexIs m v w', fun v _ => v = .bool true]
    [[(9, none)], [(3, none)], [(60, some 1)], [(59, some 0), (61, some 2)]] (by kernel_rfl) (by kernel_rfl) Ext.refl (fun _ _ _ => Ext.trans) ?_ ?_ ?_
  · intro F hF
    simp only [List.mem_cons, List.not_mem_nil, or_false] at hF
    rcases hF with rfl | rfl | rfl | rfl
    · exact fun _ _ _ h _ => h
    · exact fun _ _ _ h _ => h
    · exact fun _ _ _ h k => h.ext k
    · exact fun _ _ _ h _ => h
  · refine ⟨?_, ?_, ?_, ?_, trivial⟩
    · rintro ρ w1 hw hcst hfn hk
      have c0 := hw.cell (b := w5.heap.size) (o := 0) (v := .slice a4 m.length c4) (by first | (simp [*]; done) | (simp [*, go_sem]; done) | go_cell)
      clear hw
      simp only [known, List.getD_cons_zero, List.getD_cons_succ, Nat.reduceAdd] at hk
      simp only [List.getD_cons_zero, List.getD_cons_succ, Nat.reduceAdd, flowAt]
      go_simp
      exact ⟨Ext.refl _, by first | rfl | trivial⟩
    · rintro ρ w1 hw hcst hfn hk
      have c0 := hw.cell (b := (w.heap.size + 1)) (o := 0) (v := .slice b m.length d) (by first | (simp [*]; done) | (simp [*, go_sem]; done) | go_cell)
      clear hw
      simp only [known, List.getD_cons_zero, List.getD_cons_succ, Nat.reduceAdd] at hk
      simp only [List.getD_cons_zero, List.getD_cons_succ, Nat.reduceAdd, flowAt]
      go_simp
      exact ⟨Ext.refl _, by first | rfl | trivial⟩
    · rintro ρ w1 hw hcst hfn hk
      simp only [known, List.getD_cons_zero, List.getD_cons_succ, Nat.reduceAdd] at hk
      simp only [List.getD_cons_zero, List.getD_cons_succ, Nat.reduceAdd, flowAt]
      go_simp
      exact flow_lex (toLexicon_any b d m _ (HRE.out _ (hE.trans ((Ext.refl _).drew.trans hw))) hm)
    · rintro ρ w1 hw hcst hfn hk
      simp only [known, List.getD_cons_zero, List.getD_cons_succ, Nat.reduceAdd] at hk
      simp only [List.getD_cons_zero, List.getD_cons_succ, Nat.reduceAdd, flowAt]
      go_simp
      (obtain ⟨a6, c6, e5, r5⟩ := hk.2.1; rw [e5]; exact flow_ret (eqLexicon_self a4 a6 c4 c6 m _ (I4.out.ext ((Ext.refl _).drew.trans hw)).rd r5 hm))
  intro vs w1 hw hf
  simp only [flowFacts, Nat.reduceAdd] at hf
  obtain ⟨e0, e1, e2, e3, -⟩ := hf
  simp only [List.take_succ_cons, List.take_zero, List.drop_succ_cons, List.drop_zero, putAll, Act.put, Nat.reduceAdd, List.setIfInBounds_toArray, List.set_cons_zero, List.set_cons_succ, e0, e1, e2, e3]
  clear e0 e1 e2 e3
  replace hx := (Ext.refl _).drew.trans hw
  clear hw
  replace b0 := hx.cell b0
  replace b1 := hx.cell b1
  replace x6 := hx.cell x6
  replace x8 := hx.cell x8
  replace x9 := hx.cell x9
  replace x10 := hx.cell x10
  replace hE := hE.trans hx
  have hz8 := hx.size
  replace I2 := hid (I2.out.ext hx)
  replace I3 := hid (I3.out.ext hx)
  replace I4 := hid (I4.out.ext hx)
  replace I5 := hid (I5.out.ext hx)
  clear hx
  obtain ⟨w9, hw9⟩ : ∃ w9, w9 = w1 := ⟨_, rfl⟩
  subst hw9
  go_wp2_with fail
  refine (markX_any _ _ a3 c3 l 1 _ I3.out hl (by omega) (by omega)).mono ?_
  rintro e w10 ⟨rfl, hr3, hx⟩
  replace b0 := hx.cell b0 (by omega)
  replace b1 := hx.cell b1 (by omega)
  replace x6 := hx.cell x6 (by omega)
  replace x9 := hx.cell x9 (by omega)
  replace x10 := hx.cell x10 (by omega)
  replace hE := hx.ext0 hE (by omega)
  have hz9 := hx.size
  replace I2 := hid (hx.inR I2.out (by omega))
  replace I4 := hid (hx.inR I4.out (by omega))
  replace I5 := hid (hx.inR I5.out (by omega))
  clear hx hr3 x8 I3
  go_wp2_with fail
  refine (markX_any _ _ a4 c4 m (1 + l.length) _ I4.out hm (by omega) (by omega)).mono ?_
  rintro e w11 ⟨rfl, hr4, hx⟩
  replace b0 := hx.cell b0 (by omega)
  replace b1 := hx.cell b1 (by omega)
  replace x6 := hx.cell x6 (by omega)
  replace x10 := hx.cell x10 (by omega)
  replace hE := hx.ext0 hE (by omega)
  have hz10 := hx.size
  replace I2 := hid (hx.inR I2.out (by omega))
  replace I5 := hid (hx.inR I5.out (by omega))
  clear hx hr4 x9 I4
  have hkk : ¬ (((1 + l.length + m.length : Nat) : Int) < 0) := by omega
  go_wp2_with fail
  refine (eqLexicon_self a5 a2 c5 c2 V _ I5.out.rd I2.out.rd HB.out).mono ?_
  rintro e w12 ⟨rfl, hx⟩
  replace b0 := hx.cell b0
  replace b1 := hx.cell b1
  replace x6 := hx.cell x6
  replace x10 := hx.cell x10
  replace hE := hE.trans hx
  have hz11 := hx.size
  replace I2 := hid (I2.out.ext hx)
  replace I5 := hid (I5.out.ext hx)
  clear hx
  go_wp2_with fail
  refine (markX_any _ _ a5 c5 V 1 _ I5.out HB.out (by omega) (by omega)).mono ?_
  rintro e w13 ⟨rfl, hr5, hx⟩
  replace b0 := hx.cell b0 (by omega)
  replace b1 := hx.cell b1 (by omega)
  replace x6 := hx.cell x6 (by omega)
  replace x10 := hx.cell x10 (by omega)
  replace hE := hx.ext0 hE (by omega)
  have hz12 := hx.size
  replace I2 := hid (hx.inR I2.out (by omega))
  replace I5 := hid hr5
  clear hx hr5
  have hq : ((1 + V.length : Nat) : Int) = 1 + (V.length : Int) := by omega
  go_wp2_with fail
  refine (heldX_any a5 c5 V.length 1 _ I5.out.rd HB.out (by omega) (by omega)).mono ?_
  rintro e w14 ⟨rfl, hx⟩
  replace b0 := hx.cell b0
  replace b1 := hx.cell b1
  replace x6 := hx.cell x6
  replace x10 := hx.cell x10
  replace hE := hE.trans hx
  have hz13 := hx.size
  replace I2 := hid (I2.out.ext hx)
  replace I5 := hid (I5.out.ext hx)
  clear hx
  go_wp2_with fail
  have hZ31 : w14.drew.heap.size = w14.heap.size := rfl
  refine wp_region_mut_at 10 9 8 (Ext) (PutX w14.heap.size V) [fun v _ => v = .agg #[.slice a l.length c], fun v w' => LexIs l v w', fun v _ => v = .agg #[.slice b m.length d], fun v w' => LexIs m v w', fun v w' => TuA V K w14.heap.size v w', fun v w' => TuA V K w14.heap.size v w', fun v w' => LeA V w14.heap.size v w', fun v _ => v = .int .i64 K, SlotX w14.heap.size, fun _ _ => True]
    [[(2, none)], [(95, some 0)], [(3, none)], [(97, some 2)], [(96, some 1), (98, some 3)], [(99, some 4)], [(94, some 5)], [(94, some 5)], [], [(15, some 8), (100, some 6)]] (by kernel_rfl) (by kernel_rfl) (by kernel_rfl) (fun _ h => h) (fun _ _ _ _ h1 h2 h3 => (h2.toExt h1 hZ31).trans h3) ?_ ?_ ?_ ?_
  · intro F hF
    simp only [List.mem_cons, List.not_mem_nil, or_false] at hF
    rcases hF with rfl | rfl | rfl | rfl | rfl | rfl | rfl | rfl | rfl | rfl
    · exact fun _ _ _ h _ => h
    · exact fun _ _ _ h k => h.ext k
    · exact fun _ _ _ h _ => h
    · exact fun _ _ _ h k => h.ext k
    · exact fun _ _ _ h k => h.ext k
    · exact fun _ _ _ h k => h.ext k
    · exact fun _ _ _ h k => h.ext k
    · exact fun _ _ _ h _ => h
    · exact fun _ _ _ h k => h.ext k
    · exact fun _ _ _ h _ => h
  · intro F hF
    simp only [List.mem_cons, List.not_mem_nil, or_false] at hF
    rcases hF with rfl | rfl | rfl | rfl | rfl | rfl | rfl | rfl | rfl | rfl
    · exact fun _ _ _ _ _ h _ => h
    · exact fun _ _ _ _ _ h k => LexIs.putX h k
    · exact fun _ _ _ _ _ h _ => h
    · exact fun _ _ _ _ _ h k => h.putX k
    · exact fun _ _ _ _ _ h k => h.putX k
    · exact fun _ _ _ _ _ h k => h.putX k
    · exact fun _ _ _ _ _ h k => h.putX k
    · exact fun _ _ _ _ _ h _ => h
    · exact fun _ _ _ _ _ h k => h.put k
    · exact fun _ _ _ _ _ h _ => h
  · refine ⟨?_, ?_, ?_, ?_, ?_, ?_, ?_, ?_, ?_, ?_, trivial⟩
    · rintro ρ w1 hw hcst hfn hk
      have c0 := hw.cell (b := w.heap.size) (o := 0) (v := .slice a l.length c) (by first | (simp [*]; done) | (simp [*, go_sem]; done) | go_cell)
      clear hw
      simp only [known, List.getD_cons_zero, List.getD_cons_succ, Nat.reduceAdd] at hk
      simp only [List.getD_cons_zero, List.getD_cons_succ, Nat.reduceAdd, flowAt]
      go_simp
      exact ⟨Ext.refl _, by first | rfl | trivial⟩
    · rintro ρ w1 hw hcst hfn hk
      simp only [known, List.getD_cons_zero, List.getD_cons_succ, Nat.reduceAdd] at hk
      simp only [List.getD_cons_zero, List.getD_cons_succ, Nat.reduceAdd, flowAt]
      go_simp
      exact flow_lex (toLexicon_any a c l _ (HRD.out _ (hE.trans ((Ext.refl _).drew.trans hw))) hl)
    · rintro ρ w1 hw hcst hfn hk
      have c0 := hw.cell (b := (w.heap.size + 1)) (o := 0) (v := .slice b m.length d) (by first | (simp [*]; done) | (simp [*, go_sem]; done) | go_cell)
      clear hw
      simp only [known, List.getD_cons_zero, List.getD_cons_succ, Nat.reduceAdd] at hk
      simp only [List.getD_cons_zero, List.getD_cons_succ, Nat.reduceAdd, flowAt]
      go_simp
      exact ⟨Ext.refl _, by first | rfl | trivial⟩
    · rintro ρ w1 hw hcst hfn hk
      simp only [known, List.getD_cons_zero, List.getD_cons_succ, Nat.reduceAdd] at hk
      simp only [List.getD_cons_zero, List.getD_cons_succ, Nat.reduceAdd, flowAt]
      go_simp
      exact flow_lex (toLexicon_any b d m _ (HRE.out _ (hE.trans ((Ext.refl _).drew.trans hw))) hm)
    · rintro ρ w1 hw hcst hfn hk
      simp only [known, List.getD_cons_zero, List.getD_cons_succ, Nat.reduceAdd] at hk
      simp only [List.getD_cons_zero, List.getD_cons_succ, Nat.reduceAdd, flowAt]
      go_simp
      (obtain ⟨a6, c6, e5, r5⟩ := hk.1; obtain ⟨a7, c7, e6, r6⟩ := hk.2.1; rw [e5, e6]; exact flow_ra (HI.out a6 a7 c6 c7 _ r5 r6) hw.size)
    · rintro ρ w1 hw hcst hfn hk
      simp only [known, List.getD_cons_zero, List.getD_cons_succ, Nat.reduceAdd] at hk
      simp only [List.getD_cons_zero, List.getD_cons_succ, Nat.reduceAdd, flowAt]
      go_simp
      exact ⟨Ext.refl _, hk.1⟩
    · rintro ρ w1 hw hcst hfn hk
      simp only [known, List.getD_cons_zero, List.getD_cons_succ, Nat.reduceAdd] at hk
      simp only [List.getD_cons_zero, List.getD_cons_succ, Nat.reduceAdd, flowAt]
      go_simp
      (obtain ⟨a6, c6, e5, r5⟩ := hk.1; rw [e5]; exact ⟨Ext.refl _, a6, c6, rfl, r5⟩)
    · rintro ρ w1 hw hcst hfn hk
      simp only [known, List.getD_cons_zero, List.getD_cons_succ, Nat.reduceAdd] at hk
      simp only [List.getD_cons_zero, List.getD_cons_succ, Nat.reduceAdd, flowAt]
      go_simp
      (obtain ⟨a6, c6, e5, r5⟩ := hk.1; rw [e5]; exact ⟨Ext.refl _, rfl⟩)
    · rintro ρ w1 hw hcst hfn hk
      simp only [known, List.getD_cons_zero, List.getD_cons_succ, Nat.reduceAdd] at hk
      simp only [List.getD_cons_zero, List.getD_cons_succ, Nat.reduceAdd, flowAt]
      go_simp
      exact ⟨(Ext.refl _).alloc _, slotX_new _ _ hw.size⟩
    · rintro ρ w1 u hw hcst hfn hk hu
      replace hu := hid hu
      simp only [known, List.getD_cons_zero, List.getD_cons_succ, Nat.reduceAdd] at hk
      simp only [List.getD_cons_zero, List.getD_cons_succ, Nat.reduceAdd, flowAt]
      go_simp
      exact invAt_storeX rfl hk.1 hk.2.1 (hu.out 15 (by simp))
  intro vs wa wb w1 hwa hr hw hf
  simp only [flowFacts, Nat.reduceAdd] at hf
  obtain ⟨e0, e1, e2, e3, e4, e5, e6, e7, e8, e9, -⟩ := hf
  simp only [List.take_succ_cons, List.take_zero, List.drop_succ_cons, List.drop_zero, putAll, Act.put, Nat.reduceAdd, List.setIfInBounds_toArray, List.set_cons_zero, List.set_cons_succ, e0, e2, e7, e9]
  clear e0 e2 e7 e9
  obtain ⟨g', a7, c7, e8', hgB', hg', i7⟩ := hr.box hw
  have hx := (Ext.refl w14).drew.trans ((hr.toExt hwa hZ31).trans hw)
  rw [e8']
  replace hE := hE.trans hx
  replace x6 := hx.cell x6
  replace x10 := hx.cell x10
  have x15 := hg'.cell
  have R7 := hid i7.rd
  replace I2 := hid (I2.out.ext hx)
  replace I5 := hid (I5.out.ext hx)
  clear hx hw hwa hr e1 e3 e4 e5 e6 e8 e8' i7 hg' b0 b1
  go_wp2_with fail
  refine (eqLexicon_self a7 a2 c7 c2 V _ R7.out I2.out.rd HB.out).mono ?_
  rintro e w16 ⟨rfl, hx⟩
  replace hE := hE.trans hx
  replace x10 := hx.cell x10
  replace I5 := hid (I5.out.ext hx)
  clear hx
  go_wp2_with fail
  refine (heldX_any a5 c5 V.length 1 _ I5.out.rd HB.out (by omega) (by omega)).mono ?_
  rintro e w17 ⟨rfl, hx⟩
  replace hE := hE.trans hx
  clear hx
  go_wp2_with fail
  go_returns
  exact ⟨rfl, hE⟩

set_option maxRecDepth 100000 in
theorem lifted_FnExactMergeLexicons (os : Os) (started : os.Started) (H : Type) (enc : TypeId × Value → H) :
    ReturnsInHanded {} Try.checked os 5 .any (Rows.fnExactMergeLexiconsSpec.pre6 enc Try.prog Try.f5 Rows.fnExactMergeLexiconsRow.domain false) (Rows.fnExactMergeLexiconsSpec.post enc Try.prog Try.f5 false true false false) := by
  refine returnsInHanded_of_change (C := Try.checked) ownRow started (by kernel_rfl) Try.func5
    (ChangeSpec.witness6 (enc := enc) (C := Try.checked) false ⟨#[], #[.agg #[.slice none 0 0], .agg #[.slice none 0 0]], []⟩ 8 (by kernel_rfl) (by kernel_rfl) (by kernel_rfl) (by kernel_rfl)) ?_
  intro W base args ds gs before hval0 hW hcnd _
  have hval : ∀ (j : Nat) t v, Try.f5.params[j]? = some t → args[j]? = some v → Value.okWide Try.prog W .any base t v := hval0
  have hW' := hW
  obtain ⟨p, q, hA0, hV, rfl, hfz, hnd⟩ := hW
  have hA : DataW.TrodAll enc Try.prog W 0 (fun _ => true) true Try.f5.params.toList args.toList ds p := hA0
  rw [Try.params5] at hA hval
  obtain ⟨v0, vs0, d0, ds0, p0, q0, hargs, rfl, rfl, h0, r0⟩ := trodAll_cons hA
  obtain ⟨v1, vs1, d1, ds1, p1, q1, rfl, rfl, rfl, h1, r1⟩ := trodAll_cons r0
  obtain ⟨rfl, rfl, rfl⟩ := trodAll_nil r1
  obtain rfl : args = #[v0, v1] := by cases args; simp_all
  obtain ⟨rfl, rfl⟩ := trodVars_none hV
  have k0 := h0
  have lt0 : ∀ x ∈ p0, x.block < W.heap.size := by obtain ⟨m, hm⟩ := k0; exact DataW.trod_lt m _ _ _ hm
  have k1 := h1
  have lt1 : ∀ x ∈ p1, x.block < W.heap.size := by obtain ⟨m, hm⟩ := k1; exact DataW.trod_lt m _ _ _ hm
  obtain ⟨a0_a, a0_c, a0_l, rfl, r_a0, n_a0, z_a0⟩ := open_lex Try.underlying24 (by kernel_rfl) (by kernel_rfl) Try.underlying22 Try.underlying9 (by kernel_rfl) (hval 0 24 v0 rfl rfl) h0
  obtain ⟨a1_a, a1_c, a1_l, rfl, r_a1, n_a1, z_a1⟩ := open_lex Try.underlying24 (by kernel_rfl) (by kernel_rfl) Try.underlying22 Try.underlying9 (by kernel_rfl) (hval 1 24 v1 rfl rfl) h1
  clear hA0 hval0
  refine (walk_FnExactMergeLexicons a0_a a0_c a0_l a1_a a1_c a1_l W r_a0 n_a0 z_a0 r_a1 n_a1 z_a1).mono fun e W' ⟨he, bel⟩ => ?_
  subst he
  exact ⟨_, rfl, _, _, _, [], _, [], hW', trodAll_mk1 (shut_bool Try.underlying4 _), (trodAll_cons_mk (Below.trod laidRow (by kernel_rfl) (of_decide_eq_true (by kernel_rfl)) k0 bel lt0) (trodAll_cons_mk (Below.trod laidRow (by kernel_rfl) (of_decide_eq_true (by kernel_rfl)) k1 bel lt1) trodAll_mk0)), rfl, bel.frame _, fun h => by cases h⟩

theorem over_FnExactMergeLexicons : Rows.fnExactMergeLexiconsRow.holds Try.pinned (OpenSpec.ofChange Rows.fnExactMergeLexiconsSpec) :=
  OpenClaim.holds_of_wide 5 Try.f5 rfl rfl rfl rfl rfl rfl rfl ⟨rfl, rfl, rfl, rfl, rfl⟩ rfl rfl rfl rfl rfl (by kernel_rfl) Try.func5 (by kernel_rfl)
    (of_decide_eq_true (by kernel_rfl)) (by unfold Func.isWrapper; first | (rw [if_pos (by decide +kernel)]; kernel_rfl) | (rw [if_neg (by decide +kernel)]; exact ⟨rfl, rfl⟩))
    (fun os started H enc _ => lifted_FnExactMergeLexicons os started H enc)

theorem said_FnExactMergeLexicons : Rows.FnExactMergeLexiconsSaid := over_FnExactMergeLexicons
end Go.Proofs.Ytflpiebiacainaa
