/- BuildBoth: for every lexicon the program's answer is the reference's, the lexicon stays, and the result is memory of its own. No condition. -/
import Derived.Test.YtlnccdbmchjhlaaDoorCh09h
import Derived.Test.YtlnccdbmchjhlaaDoorCh09i
import Derived.Test.YtlnccdbmchjhlaaDoorDgM
import Derived.Test.YtlnccdbmchjhlaaDoorMg11
namespace Go.Proofs.YtlnccdbmchjhlaaDoor
set_option linter.unusedVariables false
set_option linter.unusedSimpArgs false
open Go Go.RowKit Go.ChangeShapes Go.WideShapes Go.ChangeAt
open Go.ChangeMaps (open_string shut_string)
theorem Exb.ch {lo hi : Nat} {w w' : World} (h : Exb lo hi w w') : Ch (fun b => lo ≤ b ∧ b < hi) w w' := ⟨h.os, h.tape, h.output, h.size, fun b hb hn => h.block b hb (by omega)⟩
theorem OwnR.inS {w : World} {B : Nat} {a : Option Addr} {xs : List Value} (h : OwnR w B a xs) : InR B w.heap.size w a xs := by
  rcases h with h | ⟨g, e, h1, h2⟩
  · exact .inl h
  · exact .inr ⟨g, e, h1, h2.1, h2⟩
/-- An automaton of one's own, or none. -/
def DgS (lo hi : Nat) (w : World) (a : Option Addr) (L : List NdP) : Prop := L = [] ∨ ∃ g, a = some ⟨g, 0, none⟩ ∧ DgW lo hi w g L
theorem DgS.rd {lo hi : Nat} {w : World} {a : Option Addr} {L : List NdP} (h : DgS lo hi w a L) : DgRd w a L := by
  rcases h with rfl | ⟨g, rfl, h⟩
  · exact ⟨Rd.nil _ _, fun p hp => by simp at hp⟩
  · exact h.dg
theorem DgS.ext {lo hi : Nat} {w w' : World} {a : Option Addr} {L : List NdP} (h : DgS lo hi w a L) (k : Ext w w') : DgS lo hi w' a L := by
  rcases h with h | ⟨g, e, h⟩
  · exact .inl h
  · exact .inr ⟨g, e, h.ext k⟩
theorem DgS.chOff {lo hi : Nat} {w w' : World} {a : Option Addr} {L : List NdP} {K : Nat → Prop} (h : DgS lo hi w a L) (k : Ch K w w') (hk : ∀ b, lo ≤ b → b < hi → ¬ K b) : DgS lo hi w' a L := by
  rcases h with h | ⟨g, e, h⟩
  · exact .inl h
  · exact .inr ⟨g, e, h.chOff k hk⟩
theorem markNodeS_nil (a : Option Addr) (c : Nat) (k : Nat) (w : World) (hk1 : 1 ≤ k) (hk2 : k ≤ 4000000) :
    Calls Tryd.prog 27 #[.slice a 0 c, .int .i64 k] w (Ret (.int .i64 (k : Int)) w) := by
  go_enter Tryd.func27, Tryd.ntmps27
  go_wp2_with fail
  go_loopw [1, 5] (fun t i wr => i = .int .i64 0 ∧ t = .int .i64 (k : Int) ∧ wr = w) (fun _ _ _ => 0)
  case atStart => exact ⟨rfl, rfl, rfl⟩
  case round =>
    obtain ⟨rfl, rfl, rfl⟩ := hrel
    go_wp2_with fail
    go_returns
    exact ⟨rfl, Ext.refl _⟩
theorem markDawg_all (lo hi : Nat) (a : Option Addr) (c : Nat) (L : List NdP) (w : World) (h : DgS lo hi w a L) (hl : L.length ≤ 1048576) (hs : NdSh L) (hk2 : markNn 1 L ≤ 4000000) (hh : hi ≤ w.heap.size) :
    Calls Tryd.prog 12 #[dawgV a L.length c, .int .i64 1] w fun e w' => e = .returned (.int .i64 ((markNn 1 L : Nat) : Int)) ∧ DgS lo hi w' a (markNs 1 L) ∧ Ch (fun b => lo ≤ b ∧ b < hi) w w' := by
  rcases h with rfl | ⟨g, rfl, h⟩
  · have HH := hid (fun w' => markNodeS_nil a c 1 w' (by omega) (by omega))
    go_enter Tryd.func12, Tryd.ntmps12
    go_wp2_with fail
    refine (HH.out _).mono ?_
    rintro e w1 ⟨rfl, hx⟩
    go_wp2_with fail
    go_returns
    exact ⟨rfl, .inl rfl, Ch.of_ext _ (((Ext.refl w).alloc _).trans hx)⟩
  · refine (markDawg_any lo hi g c L 1 w h hl hs (by omega) hk2 hh).mono ?_
    rintro e w' ⟨rfl, h1, h2⟩
    exact ⟨rfl, .inr ⟨g, rfl, h1⟩, h2⟩
set_option maxRecDepth 100000 in
set_option maxHeartbeats 8000000 in
theorem walk_FnExactBuildBoth (a : Option Addr) (c : Nat) (l : List ByteArray) (w : World) (hr : Rd w a (strsV l)) (hl' : l.length ≤ maxLen) (hs' : ∀ s ∈ l, s.size ≤ maxLen) (hT : TabF w) :
    Calls Tryd.prog 3 #[lexV a l.length c] w (Ret (.bool true) w) := by
  have HRD : Hid (∀ w', Ext w w' → Rd w' a (strsV l)) := hid (fun w' k => hr.ext k)
  have HTB : Hid (∀ w', Ext w w' → TabF w') := hid (fun w' k => hT.ext k)
  go_enter Tryd.func3, Tryd.ntmps3
  go_wp2_with fail
  refine (szLexicon_any a c l _ _ (HRD.out _ ((Ext.refl w).alloc _)) hl' hs' (by omega) (by omega)).mono ?_
  rintro e wA ⟨rfl, hx⟩
  have hE := ((Ext.refl w).alloc _).trans hx
  have b0 := hx.cell (b := w.heap.size) (o := 0) (v := .slice a l.length c) (by go_cell)
  have hsz := hx.size
  simp only [World.size_alloc] at hsz
  clear hx hr hl' hs' hT
  by_cases hn : szX 1048576 l < 0
  · go_wp2_with fail
    go_returns
    exact ⟨rfl, hE⟩
  obtain ⟨z1, z2⟩ := szX_ok (by omega) hn
  have hl : l.length ≤ 1048576 := by omega
  have hs : ∀ s ∈ l, s.size ≤ 1048576 := fun s h => by have := sumL_mem h; omega
  obtain ⟨z, hz⟩ : ∃ z, szX 1048576 l = z := ⟨_, rfl⟩
  rw [hz] at hn ⊢
  obtain ⟨N, hN⟩ : ∃ N, (bothR l).1 = N := ⟨_, rfl⟩
  obtain ⟨C, hC⟩ : ∃ C, (bothR l).2 = C := ⟨_, rfl⟩
  have hbo := bothR_ok l
  have hNC : bothR l = (N, C) := by rw [← hN, ← hC]
  rw [hN] at hbo
  have HS := hid (fun a c w h => sBuildBoth_any a c l w h hl hs)
  have HI := hid (fun a w h hT => BuildBoth_any a l.length l w h hl hs hT)
  rw [hNC] at HS HI
  have HLEN : Hid (∀ L, ndsOf L = N → L.length ≤ 1048576 ∧ NdSh L ∧ markNn 1 L ≤ 4000000) := hid (fun L h => by
    have e1 : L.length = N.length := by rw [← h, ndsOf_length]
    have e2 : (L.map fun p => p.nd.nx.length).sum = wtN N := by rw [← h]; simp [wtN, ndsOf]; rfl
    refine ⟨by omega, fun p hp => ?_, by rw [markNn_le, e2]; omega⟩
    have := wtN_mem (N := N) (n := p.nd) (by rw [← h]; exact List.mem_map_of_mem hp)
    omega)
  clear z1 z2 hz hs hN hC hNC hbo
  go_wp2_with fail
  refine (toLexicon_cap a c l _ (HRD.out _ hE) hl).mono ?_
  rintro e w1 ⟨a1, rfl, ho1, hx⟩
  have I1 := hid ho1.rd
  replace b0 := hx.cell b0
  replace hE := hE.trans hx
  replace hsz := Nat.le_trans hsz hx.size
  clear hx ho1
  go_wp2_with fail
  refine (HS.out a1 l.length _ I1.out).mono ?_
  rintro e w2 ⟨a2, c2, L2, hL2, rfl, hd2, hx⟩
  obtain ⟨l2, sh2, mk2⟩ := HLEN.out L2 hL2
  have HL2 := hid hL2
  have D2 := hid (fun (w' : World) (k : Ext w2 w') => (⟨hd2.1.ext k, fun p hp => (hd2.2 p hp).ext k⟩ : DgRd w' a2 L2))
  have SH2 := hid sh2
  replace b0 := hx.cell b0
  replace hE := hE.trans hx
  replace hsz := Nat.le_trans hsz hx.size
  clear hx hd2 hL2 mk2 sh2 I1 HS
  have hlb0 := World.block_lt_of_cell? _ _ b0
  go_wp2_with fail
  have hE2 : Ext w2 (w2.alloc (.cells #[.slice a2 L2.length c2] 28)) := (Ext.refl w2).alloc _
  refine (toLexicon_cap a c l _ (HRD.out _ (hE.trans hE2)) hl).mono ?_
  rintro e w3 ⟨a3, rfl, ho3, hx⟩
  have x4 := hx.cell (b := w2.heap.size) (o := 0) (v := .slice a2 L2.length c2) (by simp)
  have I3 := hid ho3.inS
  rw [World.size_alloc] at I3
  replace b0 := hx.cell (hE2.cell b0)
  replace hE := hE.trans (hE2.trans hx)
  replace hE2 := hE2.trans hx
  have hz3 := hx.size
  simp only [World.size_alloc] at hz3
  clear hx ho3 hlb0
  have hlb0 := World.block_lt_of_cell? _ _ b0
  have hl4 := World.block_lt_of_cell? _ _ x4
  go_wp2_with fail
  have hx6 : Ext w3 (w3.alloc (.cells #[.slice a3 l.length l.length] 31)) := (Ext.refl w3).alloc _
  refine (HI.out a3 _ (I3.out.rd.ext hx6) (HTB.out _ (hE.trans hx6))).mono ?_
  rintro e w4 ⟨a4, c4, L4, hL4, rfl, hd4, hx⟩
  obtain ⟨l4, sh4, mk4⟩ := HLEN.out L4 hL4
  have HL4 := hid hL4
  have SH4 := hid sh4
  have MK4 := hid mk4
  have D4 : Hid (DgS (w3.heap.size + 1) w4.heap.size w4 a4 L4) := hid (by
    rcases hd4 with ⟨h, -, -⟩ | ⟨g, e, h⟩
    · exact .inl h
    · rw [World.size_alloc] at h
      exact .inr ⟨g, e, h⟩)
  have x6 := hx.cell (b := w3.heap.size) (o := 0) (v := .slice a3 l.length l.length) (by simp)
  have hz4 := hx.size
  simp only [World.size_alloc] at hz4
  replace hx := hx6.trans hx
  replace b0 := hx.cell b0
  replace x4 := hx.cell x4
  replace hE := hE.trans hx
  replace hE2 := hE2.trans hx
  replace I3 := hid (I3.out.ext hx)
  clear hx hx6 hd4 hL4 sh4 mk4 hlb0 hl4
  have hlb0 := World.block_lt_of_cell? _ _ b0
  have hl4 := World.block_lt_of_cell? _ _ x4
  have hl6 := World.block_lt_of_cell? _ _ x6
  go_wp2_with fail
  have hx7 : Ext w4 (w4.alloc (.cells #[.slice a4 L4.length c4] 28)) := (Ext.refl w4).alloc _
  refine (eqDawg_same a4 a2 c4 c2 L4 L2 _ (D4.out.ext hx7).rd (D2.out _ (hE2.trans hx7)) (by rw [HL4.out, HL2.out]) l4 SH4.out).mono ?_
  rintro e w5 ⟨rfl, hx⟩
  have x7 := hx.cell (b := w4.heap.size) (o := 0) (v := .slice a4 L4.length c4) (by simp)
  have hz5 := hx.size
  simp only [World.size_alloc] at hz5
  replace hx := hx7.trans hx
  replace b0 := hx.cell b0
  replace x4 := hx.cell x4
  replace x6 := hx.cell x6
  replace hE := hE.trans hx
  replace hE2 := hE2.trans hx
  replace I3 := hid (I3.out.ext hx)
  replace D4 := hid (D4.out.ext hx)
  clear hx hx7 hlb0 hl4 hl6
  go_wp2_with fail
  refine wp_region_flow_at (C := Ext) 4 [fun v _ => v = .agg #[.slice a3 l.length l.length], fun v _ => v = .agg #[.slice a l.length c], fun v w' => LexIs l v w', fun v _ => v = .bool true]
    [[(6, none)], [(1, none)], [(42, some 1)], [(41, some 0), (43, some 2)]] (by kernel_rfl) (by kernel_rfl) Ext.refl (fun _ _ _ => Ext.trans) ?_ ?_ ?_
  · intro F hF
    simp only [List.mem_cons, List.not_mem_nil, or_false] at hF
    rcases hF with rfl | rfl | rfl | rfl
    · exact fun _ _ _ h _ => h
    · exact fun _ _ _ h _ => h
    · exact fun _ _ _ h k => h.ext k
    · exact fun _ _ _ h _ => h
  · refine ⟨?_, ?_, ?_, ?_, trivial⟩
    · rintro ρ w1 hw hcst hfn hk
      have c0 := hw.cell (b := w3.heap.size) (o := 0) (v := .slice a3 l.length l.length) (by first | (simp [*]; done) | (simp [*, go_sem]; done) | go_cell)
      clear hw
      simp only [known, List.getD_cons_zero, List.getD_cons_succ, Nat.reduceAdd] at hk
      simp only [List.getD_cons_zero, List.getD_cons_succ, Nat.reduceAdd, flowAt]
      go_simp
      exact ⟨Ext.refl _, by first | rfl | trivial⟩
    · rintro ρ w1 hw hcst hfn hk
      have c0 := hw.cell (b := w.heap.size) (o := 0) (v := .slice a l.length c) (by first | (simp [*]; done) | (simp [*, go_sem]; done) | go_cell)
      clear hw
      simp only [known, List.getD_cons_zero, List.getD_cons_succ, Nat.reduceAdd] at hk
      simp only [List.getD_cons_zero, List.getD_cons_succ, Nat.reduceAdd, flowAt]
      go_simp
      exact ⟨Ext.refl _, by first | rfl | trivial⟩
    · rintro ρ w1 hw hcst hfn hk
      simp only [known, List.getD_cons_zero, List.getD_cons_succ, Nat.reduceAdd] at hk
      simp only [List.getD_cons_zero, List.getD_cons_succ, Nat.reduceAdd, flowAt]
      go_simp
      exact flow_lex (toLexicon_any a c l _ (HRD.out _ (hE.trans ((Ext.refl _).drew.trans hw))) hl)
    · rintro ρ w1 hw hcst hfn hk
      simp only [known, List.getD_cons_zero, List.getD_cons_succ, Nat.reduceAdd] at hk
      simp only [List.getD_cons_zero, List.getD_cons_succ, Nat.reduceAdd, flowAt]
      go_simp
      (obtain ⟨a6, c6, e5, r5⟩ := hk.2.1; rw [e5]; exact flow_ret (eqLexicon_self a3 a6 l.length c6 l _ (I3.out.ext ((Ext.refl _).drew.trans hw)).rd r5 hl))
  intro vs w1 hw hf
  simp only [flowFacts, Nat.reduceAdd] at hf
  obtain ⟨e0, e1, e2, e3, -⟩ := hf
  simp only [List.take_succ_cons, List.take_zero, List.drop_succ_cons, List.drop_zero, putAll, Act.put, Nat.reduceAdd, List.setIfInBounds_toArray, List.set_cons_zero, List.set_cons_succ, e0, e1, e2, e3]
  clear e0 e1 e2 e3
  replace hx := (Ext.refl _).drew.trans hw
  clear hw
  replace b0 := hx.cell b0
  replace x4 := hx.cell x4
  replace x6 := hx.cell x6
  replace x7 := hx.cell x7
  replace hE := hE.trans hx
  replace hE2 := hE2.trans hx
  have hz6 := hx.size
  replace I3 := hid (I3.out.ext hx)
  replace D4 := hid (D4.out.ext hx)
  clear hx
  obtain ⟨w8, hw8⟩ : ∃ w8, w8 = w1 := ⟨_, rfl⟩
  subst hw8
  go_wp2_with fail
  refine (markX_any _ _ a3 l.length l 1 _ I3.out hl (by omega) (by omega)).mono ?_
  rintro e w10 ⟨rfl, hr3, hx⟩
  replace b0 := hx.cell b0 (by omega)
  replace x4 := hx.cell x4 (by omega)
  replace x7 := hx.cell x7 (by omega)
  replace hE := hx.ext0 hE (by omega)
  replace hE2 := hx.ext0 hE2 (by omega)
  have hz9 := hx.size
  replace D4 := hid (D4.out.chOff hx.ch (fun b h1 h2 e => by omega))
  clear hx hr3 x6 I3
  have hkk : ¬ (((1 + l.length : Nat) : Int) < 0) := by omega
  go_wp2_with fail
  refine (eqDawg_same a4 a2 c4 c2 L4 L2 _ D4.out.rd (D2.out _ hE2) (by rw [HL4.out, HL2.out]) l4 SH4.out).mono ?_
  rintro e w11 ⟨rfl, hx⟩
  replace b0 := hx.cell b0
  replace x4 := hx.cell x4
  replace x7 := hx.cell x7
  replace hE := hE.trans hx
  replace hE2 := hE2.trans hx
  have hz10 := hx.size
  replace D4 := hid (D4.out.ext hx)
  clear hx hkk
  go_wp2_with fail
  refine (markDawg_all _ _ a4 c4 L4 _ D4.out l4 SH4.out MK4.out (by omega)).mono ?_
  rintro e w12 ⟨rfl, hd, hx⟩
  replace b0 := hx.cell b0 (by omega)
  replace x4 := hx.cell x4 (by omega)
  replace x7 := hx.cell x7 (by omega)
  replace hE := hid (((Ch.of_ext (fun b => w3.heap.size + 1 ≤ b ∧ b < w4.heap.size) hE).trans hx).ext (by omega))
  replace hE2 := hid (((Ch.of_ext (fun b => w3.heap.size + 1 ≤ b ∧ b < w4.heap.size) hE2).trans hx).ext (by omega))
  have hE := hE.out
  have hE2 := hE2.out
  have hz11 := hx.size
  have D5 := hid hd
  have HHD := hid (fun (w' : World) (k : Ext w12 w') => heldDawg_any a4 c4 L4 1 w' (D5.out.ext k).rd l4 SH4.out (by omega) MK4.out)
  obtain ⟨M, hM⟩ : ∃ M : Nat, markNn 1 L4 = M := ⟨_, rfl⟩
  rw [hM] at HHD ⊢
  have hkk : ¬ ((M : Int) < 0) := by omega
  clear hx hd D4 hM MK4
  go_wp2_with fail
  refine (HHD.out _ (Ext.refl _)).mono ?_
  rintro e w13 ⟨rfl, hx⟩
  have hX13 := hx
  replace b0 := hx.cell b0
  replace x4 := hx.cell x4
  replace x7 := hx.cell x7
  replace hE := hE.trans hx
  replace hE2 := hE2.trans hx
  clear hx
  go_wp2_with fail
  refine (toLexicon_cap a c l _ (HRD.out _ hE) hl).mono ?_
  rintro e w14 ⟨a6, rfl, ho6, hx⟩
  have I6 := hid ho6.rd
  replace x4 := hx.cell x4
  replace x7 := hx.cell x7
  replace hE := hE.trans hx
  replace hE2 := hE2.trans hx
  replace hX13 := hX13.trans hx
  clear hx ho6 b0
  go_wp2_with fail
  refine (HI.out a6 _ I6.out (HTB.out _ hE)).mono ?_
  rintro e w15 ⟨a7, c7, L7, hL7, rfl, hd7, hx⟩
  obtain ⟨l7, sh7, -⟩ := HLEN.out L7 hL7
  have HL7 := hid hL7
  have SH7 := hid sh7
  have D7 : Hid (DgRd w15 a7 L7) := hid (by
    rcases hd7 with ⟨rfl, -, -⟩ | ⟨g, rfl, h⟩
    · exact ⟨Rd.nil _ _, fun p hp => by simp at hp⟩
    · exact h.dg)
  replace x4 := hx.cell x4
  replace x7 := hx.cell x7
  replace hE := hE.trans hx
  replace hE2 := hE2.trans hx
  replace hX13 := hX13.trans hx
  clear hx hd7 hL7 sh7 I6
  have hl4 := World.block_lt_of_cell? _ _ x4
  have hl7 := World.block_lt_of_cell? _ _ x7
  go_wp2_with fail
  have hx8 : Ext w15 (w15.alloc (.cells #[.slice a7 L7.length c7] 28)) := (Ext.refl w15).alloc _
  refine (eqDawg_same a7 a2 c7 c2 L7 L2 _ ⟨D7.out.1.ext hx8, fun p hp => (D7.out.2 p hp).ext hx8⟩ (D2.out _ (hE2.trans hx8)) (by rw [HL7.out, HL2.out]) l7 SH7.out).mono ?_
  rintro e w16 ⟨rfl, hx⟩
  replace hx := hx8.trans hx
  replace x7 := hx.cell x7
  replace hE := hE.trans hx
  replace hX13 := hX13.trans hx
  clear hx hx8 x4
  go_wp2_with fail
  refine (HHD.out _ hX13).mono ?_
  rintro e w17 ⟨rfl, hx⟩
  replace hE := hE.trans hx
  clear hx
  go_wp2_with fail
  go_returns
  exact ⟨rfl, hE⟩

set_option maxRecDepth 100000 in
theorem lifted_FnExactBuildBoth (os : Os) (started : os.Started) (H : Type) (enc : TypeId × Value → H) :
    ReturnsInHanded {} Tryd.checked os 3 .any (fun w args => (Rows.fnExactBuildBothSpec.pre enc Tryd.prog Tryd.f3 [] false w args ∧ laidMetH Tryd.prog Rows.fnExactBuildBothRow.laid w) ∧ sizedMet enc Tryd.prog Tryd.f3 (OpenSpec.ofChange Rows.fnExactBuildBothSpec) false w args)
      (Rows.fnExactBuildBothSpec.post enc Tryd.prog Tryd.f3 false true false false) := by
  refine returnsInHanded_of_change_and (C := Tryd.checked) (X := fun w _ => laidMetH Tryd.prog Rows.fnExactBuildBothRow.laid w) (fun _ _ _ hh h => h.of_heap hh) ownRow started (by kernel_rfl) Tryd.func3
    (ChangeSpec.witness_shaped (enc := enc) (C := Tryd.checked) (os := os) (X := fun w _ => laidMetH Tryd.prog Rows.fnExactBuildBothRow.laid w) false (World.laidAll Tryd.prog os Rows.fnExactBuildBothRow.laid) #[.agg #[.slice none 0 0]] 8 (World.laidAll_os _ _ _)
      (World.shaped_of_ZipB (by kernel_rfl) (by kernel_rfl)) (by kernel_rfl) (by kernel_rfl) (by kernel_rfl)
      (by rw [MakeChecks.laidMetH_plain _ _ _ (by kernel_rfl)]; exact laidMet_laidAll _ (by kernel_rfl) (by kernel_rfl))) ?_
  intro W base args ds gs before hval0 hW _ _ hL _
  have hval : ∀ (j : Nat) t v, Tryd.f3.params[j]? = some t → args[j]? = some v → Value.okWide Tryd.prog W .any base t v := hval0
  have hW' := hW
  obtain ⟨p, q, hA0, hV, rfl, hfz, hnd⟩ := hW
  have hA : DataW.TrodAll enc Tryd.prog W 0 (fun _ => true) true Tryd.f3.params.toList args.toList ds p := hA0
  rw [Tryd.params3] at hA hval
  obtain ⟨v0, vs0, d0, ds0, p0, q0, hargs, rfl, rfl, h0, r0⟩ := trodAll_cons hA
  obtain ⟨rfl, rfl, rfl⟩ := trodAll_nil r0
  obtain rfl : args = #[v0] := by cases args; simp_all
  obtain ⟨rfl, rfl⟩ := trodVars_none hV
  have k0 := h0
  have lt0 : ∀ x ∈ p0, x.block < W.heap.size := by obtain ⟨m, hm⟩ := k0; exact DataW.trod_lt m _ _ _ hm
  obtain ⟨a0_a, a0_c, a0_l, rfl, r_a0, n_a0, z_a0⟩ := open_lex Tryd.underlying24 (by kernel_rfl) (by kernel_rfl) Tryd.underlying22 Tryd.underlying9 (by kernel_rfl) (hval 0 24 v0 rfl rfl) h0
  clear hA0 hval0
  rw [MakeChecks.laidMetH_plain _ _ _ (by kernel_rfl)] at hL
  refine (walk_FnExactBuildBoth a0_a a0_c a0_l W r_a0 n_a0 z_a0 (tabF_of hL)).mono fun e W' ⟨he, bel⟩ => ?_
  subst he
  exact ⟨_, rfl, _, _, _, [], _, [], hW', trodAll_mk1 (shut_bool Tryd.underlying4 _), (trodAll_cons_mk (Below.trod laidRow (by kernel_rfl) (of_decide_eq_true (by kernel_rfl)) k0 bel lt0) trodAll_mk0), rfl, bel.frame _, fun h => by cases h⟩

theorem over_FnExactBuildBoth : Rows.fnExactBuildBothRow.holds Tryd.pinned (OpenSpec.ofChange Rows.fnExactBuildBothSpec) :=
  OpenClaim.holds_of_wide 3 Tryd.f3 rfl rfl rfl rfl rfl rfl rfl ⟨rfl, rfl, rfl, rfl, rfl⟩ rfl rfl rfl rfl rfl (by kernel_rfl) Tryd.func3 (by kernel_rfl)
    (of_decide_eq_true (by kernel_rfl)) (by unfold Func.isWrapper; first | (rw [if_pos (by decide +kernel)]; kernel_rfl) | (rw [if_neg (by decide +kernel)]; exact ⟨rfl, rfl⟩))
    (fun os started H enc _ => lifted_FnExactBuildBoth os started H enc)

theorem said_FnExactBuildBoth : Rows.FnExactBuildBothCardSaid :=
  Claim7.holds_tied_plain_at .later [] [.data, .data, .data] true (true, "faf46aeedcc5138489a2a99325935cac78a0ce2f5b559bb381a14dd4a344e90a") false over_FnExactBuildBoth (fun _ h => by cases h) (by kernel_rfl) (fun _ h => by cases h) fnExactBuildBoth_row_tie rfl ⟨rfl, rfl⟩ (by kernel_rfl) rfl
    (fun f fn hf hfn => by
      obtain rfl : f = 3 := Option.some.inj ((show Tryd.prog.funcNamed "loop.example/g00911/laws.FnExactBuildBoth" = some 3 by kernel_rfl).symm.trans hf) |>.symm
      obtain rfl : fn = Tryd.f3 := (Option.some.inj (Tryd.func3.symm.trans hfn)).symm
      exact ⟨by kernel_rfl, fun j t ht => by
        rw [Tryd.params3] at ht
        have hm : t ∈ [24] := by simpa using Array.mem_of_getElem? ht
        have hall : ([24].all fun u => !Tryd.prog.wantsStandIn u) = true := by kernel_rfl
        exact (show Tryd.prog.wantsStandIn t = false by simpa using List.all_eq_true.1 hall t hm)⟩)
    (by kernel_rfl)
end Go.Proofs.YtlnccdbmchjhlaaDoor
