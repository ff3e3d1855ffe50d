/- Building, by the reference. Conditions: at most 3000 words of ASCII, of fewer than 100 bytes; at most 200000 nodes. -/
import Derived.Test.YtabljchbchjjcaaGreatDoorCh06i
import Derived.Test.YtabljchbchjjcaaGreatDoorMg17
import Derived.Test.YtabljchbchjjcaaGreatDoorMg9
import Derived.Test.YtabljchbchjjcaaGreatDoorMg18
namespace Go.Proofs.YtabljchbchjjcaaGreatDoor
set_option linter.unusedVariables false
set_option linter.unusedSimpArgs false
open Go Go.RowKit
theorem wAt_drop (S : List ByteArray) (k i : Nat) : wAt (S.drop k) i = wAt S (k + i) := by
  unfold wAt
  rw [List.getD_eq_getElem?_getD, List.getD_eq_getElem?_getD, List.getElem?_drop]
theorem findN {N : List Nd} {n : Nd} {i : Nat} (hi : i < N.length) (h : eqNd (ndG N i) n = true) (hb : ∀ j, j < i → eqNd (ndG N j) n = false) : N.findIdx (fun x => eqNd x n) = i := by
  rw [List.findIdx_eq hi]
  refine ⟨by rw [ndG_eq hi]; exact h, fun j hj => ?_⟩
  rw [ndG_eq (by omega)]
  exact hb j hj
theorem findN_no {N : List Nd} {n : Nd} (hb : ∀ j, j < N.length → eqNd (ndG N j) n = false) : N.findIdx (fun x => eqNd x n) = N.length := by
  rw [List.findIdx_eq_length]
  intro x hx
  obtain ⟨i, hi, rfl⟩ := List.getElem_of_mem hx
  rw [ndG_eq hi]
  simpa using hb i hi
theorem cat_first {x : UInt8} (l : List UInt8) {s : ByteArray} (h : 0 < s.size) (hx : s[0] = x) : (⟨l.toArray⟩ : ByteArray) ++ s.extract 0 1 = ⟨(l ++ [x]).toArray⟩ := by
  apply ByteArray.ext
  rw [ByteArray.data_append, ByteArray.data_extract]
  apply Array.toList_inj.1
  rw [Array.toList_append, Array.toList_extract]
  have hl := toL_len s
  cases hs : s.data.toList with
  | nil => rw [hs] at hl; simp at hl; omega
  | cons y r =>
    have e : s[0] = y := by
      rw [ltr0_eq h]
      unfold ltr
      rw [hs]; rfl
    rw [← hx, e]
    simp [List.extract]
abbrev MkS (w : World) (B m : Nat) (A : Nat → Prop) (aq : Option Addr) (c : Nat) (L : List NdP) : Prop := Mk w B m m 87 [] A aq c L
/-- No node has many edges. -/
def SzN (N : List Nd) : Prop := ∀ n ∈ N, n.nx.length ≤ 3000
abbrev NoX : World → List Nd → Prop := fun _ N => SzN N
/-- What building is to do. -/
def SBuildC (B m f : Nat) : Prop := ∀ (S : List ByteArray) (A : Nat → Prop) (aq : Option Addr) (c : Nat) (L : List NdP) (a : Option Addr) (cc : Nat) (w : World),
  MkS w B m A aq c L → SzN (ndsOf L) → Dn (ndsOf L) → WsOk 0 (f + 1) S → S.length ≤ 3000 → f ≤ 100 → L.length + totL (sufs 0 S) ≤ 199000 → (∀ b, A b → b < w.heap.size) → B ≤ w.heap.size →
  Rd w a (strsV S) → (0 < S.length → ∀ p, a = some p → A p.block) →
  Calls Tryz.prog 49 #[.pointer (some ⟨m, 0, none⟩), .slice a S.length cc] w (MkE w B m m 87 [] A NoX aq (bld (f + 1) (ndsOf L) (sufs 0 S)))

set_option maxRecDepth 100000 in
set_option maxHeartbeats 8000000 in
theorem sbuild_no (B m f : Nat) (ih : ∀ f', f' < f → SBuildC B m f') (S : List ByteArray) (hpos : 0 < S.length) (hz : ¬ (wAt S 0).size = 0) (A : Nat → Prop) (aq : Option Addr) (c : Nat) (L : List NdP) (a : Option Addr) (cc : Nat) (w : World)
    (hM : MkS w B m A aq c L) (hSz : SzN (ndsOf L)) (hDn : Dn (ndsOf L)) (hW : WsOk 0 (f + 1) S) (hlen : (S).length ≤ 3000) (hdf : f ≤ 100) (htot : L.length + totL (sufs 0 S) ≤ 199000) (hA : ∀ b, A b → b < w.heap.size) (hB : B ≤ w.heap.size)
    (hR : Rd w a (strsV S)) (hAa : 0 < (S).length → ∀ p, a = some p → A p.block) :
    Calls Tryz.prog 49 #[.pointer (some ⟨m, 0, none⟩), .slice a (S).length cc] w (MkE w B m m 87 [] A NoX aq (bld (f + 1) (ndsOf L) (sufs 0 S))) := by
  have hfb : finB (sufs 0 S) = false := by cases S with | nil => simp at hpos | cons s r => exact (finB_cons (Nat.zero_le _)).trans (decide_eq_false hz)
  have hgo : goOn 0 S = (S).drop 0 := by unfold goOn; rw [hfb]; simp
  have hbw := bld_words f 0 (ndsOf L) S
  rw [hfb, hgo] at hbw
  obtain ⟨R, hRR⟩ : ∃ R, bld (f + 1) (ndsOf L) (sufs 0 S) = R := ⟨_, rfl⟩
  rw [hRR] at hbw ⊢
  obtain ⟨F, hF⟩ : ∃ F, foldW f 0 (ndsOf L, [], []) ((S).drop 0) = F := ⟨_, rfl⟩
  rw [hF] at hbw
  have HRR := hid hbw
  have hW1 := hW.sub (goOn_sub 0 S)
  have hlt1 := goOn_lt hW
  rw [hgo] at hW1 hlt1
  have HIH := hid ih
  have HAL := hid hA
  have HM0 := hid hM
  have hml := hM.bx.lt
  have htl : totL (sufs 0 ((S).drop 0)) = totL (sufs 0 S) := by rw [← hgo, ← restL_sufs, totL_rest]
  have HCR : Hid (∀ wr aq1, Mst w wr m m aq aq1 → Rd wr a (strsV S)) := hid (fun wr aq1 h => h.ch.rd hR (fun p e hn q => (hM.klt _ q).2 (hAa (by simpa [strsV] using hn) p e)))
  have HAA := hid hAa
  obtain ⟨b9, o9, ha9, hc9⟩ := hR.word hpos
  subst ha9
  have hd9 := hc9 0 hpos
  rw [Nat.add_zero] at hd9
  have hb9 := World.block_lt_of_cell? _ _ hd9
  obtain ⟨s0, hs0e⟩ : ∃ s, wAt S 0 = s := ⟨_, rfl⟩
  rw [hs0e] at hd9 hz
  have hp9 : (0 : Int) < (S.length : Int) := by omega
  have hs00 : s0.toList.isEmpty = false := by rw [Lib.toList_data, List.isEmpty_eq_false_iff]; intro e; have h := toL_len s0; rw [e] at h; exact hz h.symm
  clear hc9 hR hs0e
  clear ih hA hRR hbw hAa
  go_enter Tryz.func49, Tryz.ntmps49
  go_wp2_with fail
  have hEn : Ext w (w.alloc (.cells #[.bool false, .string ⟨#[]⟩, .slice none 0 0] 92)) := (Ext.refl w).alloc _
  have HB1 : Hid (Bx (w.alloc (.cells #[.bool false, .string ⟨#[]⟩, .slice none 0 0] 92)) w.heap.size 92 [.bool false, .string ⟨([] : List UInt8).toArray⟩, .slice none ([] : List Int).length 0]) := hid (Bx.new w _ _)
  have HM1 : Hid (MkS (w.alloc (.cells #[.bool false, .string ⟨#[]⟩, .slice none 0 0] 92)) B m (Aq A w.heap.size none) aq c L) := hid ((hM.also (fun b hb => by rcases hb with h | h | h; exact .inl h; exact .inr (Nat.le_of_eq h.symm); simp [blkA] at h)).ext hEn)
  have HST1 := hid (Mst.of_ext hEn m m aq)
  have HOK1 : Hid (BOk (ndsOf L, [], [])) := hid ⟨hDn, rfl, fun j hj => by simp at hj⟩
  have HF := hid hF
  have HW1 := hid hW1
  have HL1 := hid hlt1
  have HKL := hid hM.klo
  have HSZ1 := hid hSz
  clear hM hSz hDn hW hF hW1 hlt1 hEn hfb hgo
  go_loopw [6, 7, 8] (fun v6 _ _ wr => ∃ (k0 : Nat) (lt : List UInt8) (nx : List Int) (q : Option Addr) (cq : Nat) (L1 : List NdP) (aq1 : Option Addr) (cM : Nat),
      v6 = .int .i64 (k0 : Int) ∧ k0 ≤ (S).length ∧ nx.length + ((S).length - k0) ≤ 3000 ∧ Hid (WsOk 0 (f + 1) ((S).drop k0)) ∧ Hid (∀ s ∈ (S).drop k0, 0 < s.size) ∧
      Hid (Bx wr w.heap.size 92 [.bool false, .string ⟨lt.toArray⟩, .slice q nx.length cq]) ∧ Hid (Own wr (w.heap.size + 1) 2 1 q nx.length cq (intsV nx)) ∧ Hid (q = none ∧ nx.length = 0 ∧ cq = 0 ∧ intsV nx = [] ∨ ∃ g, q = some ⟨g, 0, none⟩) ∧ Hid (∀ p, q = some p → w.heap.size < p.block ∧ p.block < wr.heap.size) ∧
      Hid (MkS wr B m (Aq A w.heap.size q) aq1 cM L1) ∧ Hid (SzN (ndsOf L1)) ∧ Hid (Mst w wr m m aq aq1) ∧ Hid (BOk (ndsOf L1, lt, nx)) ∧ Hid (foldW f 0 (ndsOf L1, lt, nx) ((S).drop k0) = F) ∧ L1.length + totL (sufs 0 ((S).drop k0)) ≤ 199000) (fun v6 _ _ _ => (S).length - (intOf v6).toNat)
  case atStart => exact ⟨0, [], [], none, 0, L, aq, c, rfl, by first | omega | simp, by simp; omega, HW1, HL1, HB1, hid (Own.empty _ _ _ _ _), hid (.inl ⟨rfl, rfl, rfl, rfl⟩), hid (fun p hp => by cases hp), HM1, HSZ1, HST1, HOK1, HF, by omega⟩
  case round =>
    clear HB1 HM1 HSZ1 HST1 HOK1 HF HW1 HL1
    obtain ⟨k0, lt, nx, q, cq, L1, aq1, cM, rfl, hk0', hnx, HW, HLT, HBX, HQO, HQS, HQB, HM, HSZN, HST, HOK, HF, htt⟩ := hrel
    have hsz := HST.out.ch.size
    by_cases hlt : k0 < (S).length
    · obtain ⟨k, x, hk0, hk1, hkx, hkin, hkout, hksz, hin2, hout2⟩ := run_at (d := 0) (S := (S).drop k0) (by rw [List.length_drop]; omega) HLT.out
      rw [List.length_drop] at hk1 hkout hksz
      obtain ⟨hstW, hstT⟩ := HW.out.step HLT.out hk0 (by rw [List.length_drop]; exact hk1) hin2 hout2
      have hfp : 0 < f := by
        have h1 := HW.out.hi _ (wAt_mem ((S).drop k0) 0 (by rw [List.length_drop]; omega))
        have h2 := hksz 0 (by omega)
        omega
      have HFS := hid (foldW_step (f := f) (st := (ndsOf L1, lt, nx)) HLT.out hk0 (by rw [List.length_drop]; exact hk1) hin2 hout2)
      obtain ⟨N2, hN2⟩ : ∃ N2, (bld f (ndsOf L1) (sufs 1 (((S).drop k0).take k))).1 = N2 := ⟨_, rfl⟩
      obtain ⟨I, hI2⟩ : ∃ I, (bld f (ndsOf L1) (sufs 1 (((S).drop k0).take k))).2 = I := ⟨_, rfl⟩
      have HOK2 : Hid (BOk (N2, lt ++ [x], nx ++ [(I : Int)])) := hid (by
        obtain ⟨g1, g2, g3⟩ := bld_ok f (ndsOf L1) (sufs 1 (((S).drop k0).take k)) hstW.rise (fun y hy => by
          obtain ⟨s, hs, rfl⟩ := List.mem_map.1 hy
          have h1 := hstW.hi s hs
          have h2 := hstW.lo s hs
          rw [List.length_drop, toL_len]
          omega) hfp HOK.out.1
        have := bldG_ok (bl := bld f) (g := (x, sufs 1 (((S).drop k0).take k))) HOK.out g2 g1 g3
        unfold bldG at this
        rwa [hN2, hI2] at this)
      have HF2 : Hid (foldW f 0 (N2, lt ++ [x], nx ++ [(I : Int)]) ((S).drop (k0 + k)) = F) := hid (by
        have := HFS.out
        unfold bldG at this
        rw [hN2, hI2, List.drop_drop] at this
        rw [← this]
        exact HF.out)
      rw [List.drop_drop] at hstT
      simp only [Nat.zero_add] at hstT hstW
      have htt2 : N2.length + totL (sufs 0 ((S).drop (k0 + k))) ≤ 199000 := by
        have := bld_len f (ndsOf L1) (sufs 1 (((S).drop k0).take k)) hstW.rise
        rw [hN2, ndsOf_length] at this
        omega
      have hlt3 : (((S).drop k0).take k).length = k := by rw [List.length_take, List.length_drop]; omega
      have htt3 : L1.length + totL (sufs 0 ((((S).drop k0).take k).map cut1)) ≤ 199000 := by rw [sufs_cut]; omega
      have HN2 := hid hN2
      have HI2 := hid hI2
      have hHG := HBX.out.lt
      have hlsz : lt.length = nx.length := HOK.out.2.1
      have HRW := hid (HCR.out wr aq1 HST.out)
      have HTL := hid (l06Tails_any _ cc (S) k0 k x wr HRW.out hlen hk0 (by omega) (fun i hi => by rw [← wAt_drop]; exact hkin i hi) (fun h => by rw [← wAt_drop]; exact hkout (by omega)) (fun i hi h => by
        have := hksz (i - k0) (by omega)
        rw [wAt_drop] at this
        rwa [show k0 + (i - k0) = i by omega] at this))
      obtain ⟨b8, o8, ha8, hcW⟩ := HRW.out.word (by omega)
      simp only [Option.some.injEq, Addr.mk.injEq, and_true] at ha8
      obtain ⟨rfl, rfl⟩ := ha8
      have hd1 := hcW k0 hlt
      have hz1 := hksz 0 (by omega)
      rw [wAt_drop, Nat.add_zero] at hz1 hkx
      obtain ⟨s1, hs1⟩ : ∃ s, wAt (S) k0 = s := ⟨_, rfl⟩
      rw [hs1] at hd1 hz1 hkx
      have hx1 : s1[0] = x := by rw [hkx]; exact ltr0_eq hz1
      obtain ⟨T2, hT2⟩ : ∃ T : ByteArray, ⟨(lt ++ [x]).toArray⟩ = T := ⟨_, rfl⟩
      have hcat := cat_first lt hz1 hx1
      rw [hT2] at hcat
      obtain ⟨T1, hT1⟩ : ∃ T : ByteArray, ⟨lt.toArray⟩ = T := ⟨_, rfl⟩
      have hts : T1.size ≤ 3000 := by
        rw [← hT1]
        show lt.toArray.size ≤ 3000
        rw [List.size_toArray]
        omega
      have hz3 : (s1.extract 0 1).size = 1 := by rw [ByteArray.size_extract]; omega
      have n1 : ¬ 9223372036854775807 < T1.size + 1 := by omega
      rw [hT1] at hcat HBX
      have HT2 := hid hT2
      have HCAT := hid hcat
      clear hT2 hT1 hcat hcW hs1 hkx hin2 hout2 hkin hkout hksz hN2 hI2
      go_wp2_with fail
      with_reducible refine HTL.out.mono ?_
      rintro e w2 ⟨gt, ct, rfl, hto, hxt⟩
      have hs2 := hxt.size
      have HB2 := hid (HBX.out.ext hxt)
      have c0 := HB2.out.cell (i := 0) rfl
      have c1' := HB2.out.cell (i := 1) rfl
      have c2 := HB2.out.cell (i := 2) rfl
      have cf := HB2.out.free 1
      replace hd1 := hxt.cell hd1
      have HTO := hid hto
      have HXT := hid hxt
      obtain ⟨p1, hp1⟩ : ∃ p, o9 + k0 = p := ⟨_, rfl⟩
      rw [hp1] at hd1
      have hcat := HCAT.out
      clear hto hxt HTL
      go_wp2_with fail
      refine wp_region_flow_at (C := Ext) 9 [fun v _ => v = .pointer (some ⟨w.heap.size, 1, none⟩), fun v _ => v = .string T1, fun v _ => v = .slice (some ⟨b9, o9, none⟩) S.length cc, fun v _ => v = .int .i64 (k0 : Int), fun v _ => v = .pointer (some ⟨b9, p1, none⟩), fun v _ => v = .string s1, fun v _ => v = .string (s1.extract 0 1), fun v _ => v = .string T2, fun v _ => v = .pointer (some ⟨w.heap.size, 1, none⟩)]
        [[(5, none)], [(31, some 0)], [(1, none)], [(6, none)], [(33, some 2), (34, some 3)], [(35, some 4)], [(36, some 5)], [(32, some 1), (37, some 6)], [(5, none)]] (by kernel_rfl) (by kernel_rfl) Ext.refl (fun _ _ _ => Ext.trans) ?_ ?_ ?_
      · intro F hF
        simp only [List.mem_cons, List.not_mem_nil, or_false] at hF
        rcases hF with rfl | rfl | rfl | rfl | rfl | rfl | rfl | rfl | rfl <;> exact fun _ _ _ h _ => h
      · refine ⟨?_, ?_, ?_, ?_, ?_, ?_, ?_, ?_, ?_, trivial⟩
        · rintro ρ w1 hw hcst hfn hk
          clear hw
          simp only [known, List.getD_cons_zero, List.getD_cons_succ, Nat.reduceAdd] at hk
          simp only [List.getD_cons_zero, List.getD_cons_succ, Nat.reduceAdd, flowAt]
          go_simp
          exact ⟨Ext.refl _, by first | rfl | trivial⟩
        · rintro ρ w1 hw hcst hfn hk
          have c0 := hw.cell (b := w.heap.size) (o := 1) (v := .string T1) (by first | (simp [*]; done) | (simp [*, go_sem]; done) | go_cell)
          clear hw
          simp only [known, List.getD_cons_zero, List.getD_cons_succ, Nat.reduceAdd] at hk
          simp only [List.getD_cons_zero, List.getD_cons_succ, Nat.reduceAdd, flowAt]
          go_simp
          exact ⟨Ext.refl _, by first | rfl | trivial⟩
        · rintro ρ w1 hw hcst hfn hk
          clear hw
          simp only [known, List.getD_cons_zero, List.getD_cons_succ, Nat.reduceAdd] at hk
          simp only [List.getD_cons_zero, List.getD_cons_succ, Nat.reduceAdd, flowAt]
          go_simp
          exact ⟨Ext.refl _, by first | rfl | trivial⟩
        · rintro ρ w1 hw hcst hfn hk
          clear hw
          simp only [known, List.getD_cons_zero, List.getD_cons_succ, Nat.reduceAdd] at hk
          simp only [List.getD_cons_zero, List.getD_cons_succ, Nat.reduceAdd, flowAt]
          go_simp
          exact ⟨Ext.refl _, by first | rfl | trivial⟩
        · rintro ρ w1 hw hcst hfn hk
          simp only [known, List.getD_cons_zero, List.getD_cons_succ, Nat.reduceAdd] at hk
          simp only [List.getD_cons_zero, List.getD_cons_succ, Nat.reduceAdd, flowAt]
          go_simp
          exact ⟨Ext.refl _, by first | rfl | rw [hp1]⟩
        · rintro ρ w1 hw hcst hfn hk
          have c0 := hw.cell (b := b9) (o := p1) (v := .string s1) (by first | (simp [*]; done) | (simp [*, go_sem]; done) | go_cell)
          clear hw
          simp only [known, List.getD_cons_zero, List.getD_cons_succ, Nat.reduceAdd] at hk
          simp only [List.getD_cons_zero, List.getD_cons_succ, Nat.reduceAdd, flowAt]
          go_simp
          exact ⟨Ext.refl _, by first | rfl | trivial⟩
        · rintro ρ w1 hw hcst hfn hk
          simp only [known, List.getD_cons_zero, List.getD_cons_succ, Nat.reduceAdd] at hk
          simp only [List.getD_cons_zero, List.getD_cons_succ, Nat.reduceAdd, flowAt]
          go_simp
          (rw [if_pos (by omega)]; exact ⟨Ext.refl _, rfl⟩)
        · rintro ρ w1 hw hcst hfn hk
          simp only [known, List.getD_cons_zero, List.getD_cons_succ, Nat.reduceAdd] at hk
          simp only [List.getD_cons_zero, List.getD_cons_succ, Nat.reduceAdd, flowAt]
          go_simp
          exact ⟨Ext.refl _, by first | rfl | rw [hcat]⟩
        · rintro ρ w1 hw hcst hfn hk
          clear hw
          simp only [known, List.getD_cons_zero, List.getD_cons_succ, Nat.reduceAdd] at hk
          simp only [List.getD_cons_zero, List.getD_cons_succ, Nat.reduceAdd, flowAt]
          go_simp
          exact ⟨Ext.refl _, by first | rfl | trivial⟩
      intro vs w1 hw hf
      simp only [flowFacts, Nat.reduceAdd] at hf
      obtain ⟨e0, e1, e2, e3, e4, e5, e6, e7, e8, -⟩ := hf
      simp only [List.take_succ_cons, List.take_zero, List.drop_succ_cons, List.drop_zero, putAll, Act.put, Nat.reduceAdd, List.setIfInBounds_toArray, List.set_cons_zero, List.set_cons_succ, e0, e1, e2, e3, e4, e5, e6, e7, e8]
      clear e0 e1 e2 e3 e4 e5 e6 e7 e8
      have hE1 : Ext w2 w1 := (Ext.refl _).drew.trans hw
      have HB3 := hid ((HB2.out.ext hE1).set 1 (.string T2))
      replace c1' := hE1.cell c1'
      replace cf : w1.frozen? ⟨w.heap.size, 1, none⟩ = false := by rw [hE1.cells.2 _ _ (by omega)]; exact cf
      have HXT3 := hid (HXT.out.trans hE1)
      have HTO3 := hid (HTO.out.ext hE1)
      obtain ⟨W3, hW3⟩ : ∃ W, w1.setCell ⟨w.heap.size, 1, none⟩ (.string T2) = W := ⟨_, rfl⟩
      have hc3 := Ch.set w1 w.heap.size 1 (.string T2)
      rw [hW3] at hc3 HB3
      have HC3 := hid hc3
      have hsz3 : W3.heap.size = w1.heap.size := by rw [← hW3]; simp
      have hszw := HXT3.out.size
      clear hw hE1 c0 c2 hd1 hc3
      go_wp2_with fail
      try rw [hW3]
      clear hW3 c1' cf
      have HTO4 := hid (HC3.out.own HTO3.out (fun p e => by
        simp only [Option.some.injEq] at e
        subst e
        obtain ⟨g0, e9, k1, -, -, -⟩ := HTO3.out.form (by omega)
        simp only [Option.some.injEq, Addr.mk.injEq, and_true] at e9
        subst e9
        show ¬ gt = w.heap.size
        omega))
      have hgt : wr.heap.size ≤ gt ∧ gt < W3.heap.size := by
        obtain ⟨g0, e9, k1, k2, -, -⟩ := HTO4.out.form (by omega)
        simp only [Option.some.injEq, Addr.mk.injEq, and_true] at e9
        subst e9
        exact ⟨k1, k2⟩
      have HCW := hid ((Ch.of_ext (fun b => b = w.heap.size) HXT3.out).trans HC3.out)
      have HQ3 := hid (HCW.out.own HQO.out (fun p e => by have := (HQB.out p e).1; omega))
      have HM3 := hid (((HM.out.also (A' := fun b => Aq A w.heap.size q b ∨ b = gt) (fun b hb => by
        rcases hb with h | h
        · exact .inl h
        · exact .inr (by omega))).ch (HCW.out.mono (fun b _ e => .inl (.inr (.inl e))))))
      have hgk : ¬ Kq m m aq1 w.heap.size := fun h => (HM.out.klt _ h).2 (.inr (.inl rfl))
      have HGK := hid hgk
      have hGq : ∀ p, q = some p → p.block ≠ w.heap.size := fun p e => by have := (HQB.out p e).1; omega
      have HC : Hid (∀ w', Ext W3.drew w' → Calls Tryz.prog 49 #[.pointer (some ⟨m, 0, none⟩), .slice (some ⟨gt, 0, none⟩) k ct] w' (MkE w' B m m 87 [] (fun b => Aq A w.heap.size q b ∨ b = gt) NoX aq1 (bld f (ndsOf L1) (sufs 1 (((S).drop k0).take k))))) := hid (by
        intro w' hw'
        obtain ⟨f', rfl⟩ : ∃ f', f = f' + 1 := ⟨f - 1, by omega⟩
        have hw2 : Ext W3 w' := (Ext.refl _).drew.trans hw'
        have hsw := hw2.size
        have := HIH.out f' (by omega) ((((S).drop k0).take k).map cut1) (fun b => Aq A w.heap.size q b ∨ b = gt) aq1 cM L1 (some ⟨gt, 0, none⟩) ct w' (HM3.out.ext hw2) HSZN.out HOK.out.1 hstW.cut (by rw [List.length_map, hlt3]; omega) (by omega) htt3
          (fun b hb => by
            rcases hb with (h | h | h) | h
            · have := HAL.out b h; omega
            · omega
            · cases q with
              | none => simp [blkA] at h
              | some p =>
                have e : p.block = b := by simpa [blkA] using h
                have := (HQB.out p rfl).2
                omega
            · omega) (by omega) (HTO4.out.ext hw2).rd (fun _ p e => by simp only [Option.some.injEq] at e; subst e; exact .inr rfl)
        rw [List.length_map, hlt3, sufs_cut] at this
        exact this)
      have d0 := HB3.out.cell (i := 0) rfl
      have d1 := HB3.out.cell (i := 1) rfl
      have d2 := HB3.out.cell (i := 2) rfl
      clear hgk
      go_wp2_with fail
      refine wp_region_flagM_at 6 4 (Ch (Kq m m aq1)) (Ch (Kq m m aq1)) (fun fl => [fun v _ => v = .pointer (some ⟨w.heap.size, 2, none⟩), fun v _ => v = .slice q nx.length cq, fun v _ => v = .pointer (some ⟨m, 0, none⟩), fun v _ => v = .slice (some ⟨gt, 0, none⟩) k ct, fun v w' => fl = true ∧ v = .int .i64 (I : Int) ∧ SzN N2 ∧ ∃ aq' c' L', ndsOf L' = N2 ∧ MkS w' B m (fun b => Aq A w.heap.size q b ∨ b = gt) aq' c' L' ∧ Mst W3.drew w' m m aq1 aq', fun v w' => fl = true ∧ ∃ g, v = .slice (some ⟨g, 0, none⟩) 1 1 ∧ Rd w' (some ⟨g, 0, none⟩) [.int .i64 (I : Int)]])
        [[(5, none)], [(40, some 0)], [(0, none)], [(7, none)], [(42, some 2), (43, some 3)], [(44, some 4)]] (by kernel_rfl) (by kernel_rfl) rfl (by omega) (fun x h => Ch.of_ext _ h) (fun x y h k => h.thenExt k) (fun x y h k => (Ch.of_ext _ h).trans k) ?_ ?_ ?_ ?_
      · intro fl i hi
        obtain rfl | rfl | rfl | rfl | rfl | rfl : i = 0 ∨ i = 1 ∨ i = 2 ∨ i = 3 ∨ i = 4 ∨ i = 5 := by omega
        · exact fun _ _ _ h _ => h
        · exact fun _ _ _ h _ => h
        · exact fun _ _ _ h _ => h
        · exact fun _ _ _ h _ => h
        · exact fun v x y h k => by obtain ⟨hf, e1, ez, aq', c', L', e2, e3, e5⟩ := h; exact ⟨hf, e1, ez, aq', c', L', e2, e3.ext k, e5.trans (Mst.of_ext k m m aq')⟩
        · exact fun v x y h k => by obtain ⟨hf, g, e1, e2⟩ := h; exact ⟨hf, g, e1, e2.ext k⟩
      · intro i hi hiM
        obtain rfl | rfl | rfl | rfl | rfl | rfl : i = 0 ∨ i = 1 ∨ i = 2 ∨ i = 3 ∨ i = 4 ∨ i = 5 := by omega
        · exact fun _ _ _ _ h _ => h
        · exact fun _ _ _ _ h _ => h
        · exact fun _ _ _ _ h _ => h
        · exact fun _ _ _ _ h _ => h
        · exact absurd rfl hiM
        · exact fun v x y _ h _ => by cases h.1
      · refine ⟨?_, ?_, ?_, ?_, ?_, ?_, trivial⟩
        · rw [if_neg (by decide)]
          rintro fl ρ w1 hw hcst hfn hk
          clear hw
          simp only [known, List.getD_cons_zero, List.getD_cons_succ, Nat.reduceAdd] at hk
          simp only [List.getD_cons_zero, List.getD_cons_succ, Nat.reduceAdd, flowAt]
          go_simp
          exact ⟨Ext.refl _, by first | rfl | trivial⟩
        · rw [if_neg (by decide)]
          rintro fl ρ w1 hw hcst hfn hk
          have c0 := hw.cell (b := w.heap.size) (o := 2) (v := .slice q nx.length cq) (by first | (simp [*]; done) | (simp [*, go_sem]; done) | go_cell) (by exact HGK.out)
          clear hw
          simp only [known, List.getD_cons_zero, List.getD_cons_succ, Nat.reduceAdd] at hk
          simp only [List.getD_cons_zero, List.getD_cons_succ, Nat.reduceAdd, flowAt]
          go_simp
          exact ⟨Ext.refl _, by first | rfl | trivial⟩
        · rw [if_neg (by decide)]
          rintro fl ρ w1 hw hcst hfn hk
          clear hw
          simp only [known, List.getD_cons_zero, List.getD_cons_succ, Nat.reduceAdd] at hk
          simp only [List.getD_cons_zero, List.getD_cons_succ, Nat.reduceAdd, flowAt]
          go_simp
          exact ⟨Ext.refl _, by first | rfl | trivial⟩
        · rw [if_neg (by decide)]
          rintro fl ρ w1 hw hcst hfn hk
          clear hw
          simp only [known, List.getD_cons_zero, List.getD_cons_succ, Nat.reduceAdd] at hk
          simp only [List.getD_cons_zero, List.getD_cons_succ, Nat.reduceAdd, flowAt]
          go_simp
          exact ⟨Ext.refl _, by first | rfl | trivial⟩
        · rw [if_pos (by decide)]
          rintro ρ w1 hw hcst hfn hk
          simp only [known, List.getD_cons_zero, List.getD_cons_succ, Nat.reduceAdd] at hk
          simp only [List.getD_cons_zero, List.getD_cons_succ, Nat.reduceAdd]
          (obtain ⟨h42, h43, -⟩ := hk; unfold invAt execOp; go_simp; refine (HC.out _ hw).mono ?_; rintro e w' ⟨rfl, aq', c', L', e2, e3, e4, e5⟩; first | exact ⟨_, rfl, e5.ch, by rw [HI2.out], by rw [e2, HN2.out] at e4; exact e4, aq', c', L', by rw [e2, HN2.out], e3, (Mst.of_ext hw m m aq1).trans e5⟩ | exact ⟨_, rfl, e5.ch, by trivial, by rw [HI2.out], by rw [e2, HN2.out] at e4; exact e4, aq', c', L', by rw [e2, HN2.out], e3, (Mst.of_ext hw m m aq1).trans e5⟩)
        · rw [if_neg (by decide)]
          rintro fl ρ w1 hw hcst hfn hk
          simp only [known, List.getD_cons_zero, List.getD_cons_succ, Nat.reduceAdd] at hk
          simp only [List.getD_cons_zero, List.getD_cons_succ, Nat.reduceAdd, flowAt]
          go_simp
          exact ⟨(Ext.refl _).alloc _, w1.heap.size, rfl, rd_of_new rfl [.int .i64 (I : Int)] _⟩
      intro vs w1 hw hf
      simp only [flowFacts, Nat.reduceAdd] at hf
      obtain ⟨e0, e1, e2, e3, e4, e5, -⟩ := hf
      simp only [List.take_succ_cons, List.take_zero, List.drop_succ_cons, List.drop_zero, putAll, Act.put, Nat.reduceAdd, List.setIfInBounds_toArray, List.set_cons_zero, List.set_cons_succ, e0, e1, e2, e3]
      clear e0 e1 e2 e3
      obtain ⟨-, e44, eSz, aq', cM', L', eN, hM6, hS6⟩ := e4
      have HSZ6 := hid eSz
      obtain ⟨-, g0, hg0, hgr⟩ := e5
      rw [hg0]
      have HGR := hid hgr
      have hch : Ch (Kq m m aq1) W3 w1 := (Ch.of_ext _ (Ext.refl _).drew).trans hw
      have hkq := HM3.out.klt
      have HB6 := hid (HB3.out.ch hch HGK.out)
      have HQ6 := hid (hch.own HQ3.out (fun p e h => (hkq _ h).2 (.inl (.inr (.inr (by rw [e]; rfl))))))
      have HM6 := hid hM6
      have HS6 := hid hS6
      have HEN := hid eN
      have hz6 := hch.size
      have hgq : ¬ blkA q = some w.heap.size := fun e => by
        cases q with
        | none => simp [blkA] at e
        | some p => exact hGq p rfl (by simpa [blkA] using e)
      have HGQ := hid hgq
      clear hch hw hg0 hgr hM6 hS6 eN e44 eSz d0 d1 d2 hgq hkq
      go_wp2_with (at_builtin; refine wpList_appendO rfl _ _ 90 rfl El_int64 rfl rfl [.int .i64 (I : Int)] HGR.out rfl (by omega) (by simp [Value.oneCell']) HQ6.out HQS.out (by omega) (by unfold maxLen; omega) (by omega) ?_; intro g8 c8 w8 ho8 hc8 hs8; have HO8 := hid ho8; have HC8 := hid hc8; have HS8 := hid hs8; have HB8 := hid (HB6.out.ch hc8 HGQ.out); have e0 := HB8.out.cell (i := 0) rfl; have e1 := HB8.out.cell (i := 1) rfl; have e2 := HB8.out.cell (i := 2) rfl; have ef := HB8.out.free 2; clear ho8 hc8 hs8)
      have HM9 : Hid (MkS (w8.setCell ⟨w.heap.size, 2, none⟩ (.slice (some ⟨g8, 0, none⟩) (nx.length + 1) c8)) B m (Aq A w.heap.size (some ⟨g8, 0, none⟩)) aq' cM' L') := hid (by
        have h7 := HM6.out.also (A' := fun b => Aq A w.heap.size q b ∨ b = g8) (fun b hb => by
          rcases hb with h | rfl
          · exact .inl (.inl h)
          · rcases HS8.out with h | h
            · exact .inl (.inl (.inr (.inr h)))
            · exact .inr h)
        have h9 := (h7.ch (HC8.out.mono (fun b _ e => .inl (.inr (.inr e))))).ch ((Ch.set w8 w.heap.size 2 (.slice (some ⟨g8, 0, none⟩) (nx.length + 1) c8)).mono (fun b _ e => .inl (.inr (.inl e))))
        exact h9.also (fun b hb => by
          rcases hb with h | h | h
          · exact .inl (.inl (.inl h))
          · exact .inl (.inl (.inr (.inl h)))
          · exact .inl (.inr (by simpa [blkA] using h.symm))))
      have HF8 := hid (HO8.out.form (by omega))
      have hg8 : w.heap.size < g8 ∧ g8 < w8.heap.size := by
        obtain ⟨g9, e9, k1, k2, -, -⟩ := HF8.out
        simp only [Option.some.injEq, Addr.mk.injEq, and_true] at e9
        subst e9
        exact ⟨k1, k2⟩
      have HZ9 := hid (Ch.set w8 w.heap.size 2 (.slice (some ⟨g8, 0, none⟩) (nx.length + 1) c8))
      have HST9 := hid (HST.out.weave HCW.out (Nat.le_refl _) ((Mst.of_ext (Ext.refl _).drew m m aq1).trans HS6.out) HC8.out (fun p e => by have := (HQB.out p e).1; omega) HZ9.out)
      have hL2 : L'.length = N2.length := by rw [← HEN.out, ndsOf_length]
      go_roundw
      case rel =>
        refine ⟨k0 + k, lt ++ [x], nx ++ [(I : Int)], some ⟨g8, 0, none⟩, c8, L', aq', cM', by first | rfl | go_num, by omega, by rw [List.length_append]; simp; omega, hid (by rw [← List.drop_drop]; exact HW.out.sub (List.drop_sublist _ _)), hid (by rw [← List.drop_drop]; exact fun s hs => HLT.out s (List.mem_of_mem_drop hs)), hid ?_, hid ?_, hid (.inr ⟨g8, rfl⟩), hid ?_, HM9, hid (by rw [HEN.out]; exact HSZ6.out), HST9, hid ?_, hid ?_, by omega⟩
        · rw [List.length_append, HT2.out]
          exact HB8.out.set 2 _
        · rw [List.length_append, intsV_add]
          exact HZ9.out.own HO8.out (fun p e => by simp only [Option.some.injEq] at e; subst e; simp; omega)
        · intro p e
          simp only [Option.some.injEq] at e
          subst e
          exact ⟨hg8.1, by simpa using hg8.2⟩
        · rw [HEN.out]; exact HOK2.out
        · rw [HEN.out]; exact HF2.out
      case measure => simp [intOf]; omega
    · obtain rfl : k0 = (S).length := by omega
      have hF2 := HF.out
      rw [List.drop_length, foldW_nil] at hF2
      have HFE := hid hF2
      obtain ⟨o1, o2, o3⟩ := HOK.out
      obtain ⟨T1, hT1⟩ : ∃ T : ByteArray, ⟨lt.toArray⟩ = T := ⟨_, rfl⟩
      rw [hT1] at HBX
      have hR : R = putN (ndsOf L1) ⟨false, T1, nx⟩ := by rw [HRR.out, ← HFE.out, ← hT1]
      have HRE := hid hR
      have hts : T1.size = nx.length := by
        rw [← hT1]
        show lt.toArray.size = nx.length
        rw [List.size_toArray]
        exact o2
      have hnx3 : nx.length ≤ 3000 := by simp at hnx; omega
      have hL1 : L1.length ≤ 199000 := by omega
      have hHG := HBX.out.lt
      have HMX : Hid (∀ w', Ext wr w' → MkS w' B m (Aq A w.heap.size q) aq1 cM L1) := hid (fun w' h => HM.out.ext h)
      have HBE : Hid (∀ w', Ext wr w' → NdAt w' w.heap.size 0 false T1 q nx.length cq) := hid (fun w' h => ⟨h.cell (HBX.out.cell (i := 0) rfl), h.cell (HBX.out.cell (i := 1) rfl), h.cell (HBX.out.cell (i := 2) rfl)⟩)
      have HQR : Hid (∀ w', Ext wr w' → Rd w' q (intsV nx)) := hid (fun w' h => (HQO.out.ext h).rd)
      have HFN := hid (fun i => @findN (ndsOf L1) ⟨false, T1, nx⟩ i)
      have HFO := hid (@findN_no (ndsOf L1) ⟨false, T1, nx⟩)
      have hm0 := HM.out.bx.cell (i := 0) rfl
      have hml2 := HM.out.bx.lt
      clear hF2 hT1 hR o1 o2 o3
      go_wp2_with fail
      go_loopw [9] (fun v9 wq => ∃ i : Nat, v9 = .int .i64 (i : Int) ∧ i ≤ L1.length ∧ Hid (∀ j, j < i → eqNd (ndG (ndsOf L1) j) ⟨false, T1, nx⟩ = false) ∧ Ext wr wq) (fun v9 _ => L1.length - (intOf v9).toNat)
      case atStart => exact ⟨0, rfl, by omega, hid (fun j h => by omega), Ext.refl _⟩
      case round =>
        obtain ⟨i, rfl, hi, HJ, hx⟩ := hrel
        have hxs := hx.size
        replace hm0 := hx.cell hm0
        by_cases hil : i < L1.length
        · obtain ⟨bL, oL, rfl, hcl⟩ := (HMX.out wr hx).own.rd.nds (by omega)
          have hck := hcl i hil
          have hgi := ndG_of L1 i
          have hrd := (HMX.out wr hx).rd _ (ndAt_mem L1 i hil)
          have hsi : (ndAt L1 i).nd.nx.length ≤ 3000 := by rw [← hgi]; exact HSZN.out _ (by rw [← ndG_eq (by rw [ndsOf_length]; exact hil)]; exact List.getElem_mem _)
          obtain ⟨p', hp⟩ : ∃ p, ndAt L1 i = p := ⟨_, rfl⟩
          rw [hp] at hck hgi hrd hsi
          obtain ⟨⟨f1, s1, nx1⟩, pa, pc⟩ := p'
          simp only at hck hgi hrd hsi
          obtain ⟨E, hE⟩ : ∃ E, eqNd ⟨f1, s1, nx1⟩ ⟨false, T1, nx⟩ = E := ⟨_, rfl⟩
          obtain ⟨u1, hu1⟩ : ∃ u1, oL + i * 3 = u1 := ⟨_, rfl⟩
          rw [hu1] at hck
          have hcall := l06Equal_any f1 false s1 T1 pa q pc cq bL w.heap.size u1 0 nx1 nx wr hck (HBE.out wr hx) hrd (HQR.out wr hx) (by omega) (by omega)
          rw [hE] at hcall
          have HCALL := hid hcall
          rw [← hgi] at hE
          have HE := hid hE
          clear hcall hE hgi hck hrd hcl hp
          cases E
          · go_wp2_with fail
            with_reducible refine HCALL.out.mono ?_
            rintro e w5 ⟨rfl, hx5⟩
            go_wp2_with fail
            go_roundw
            case rel => exact ⟨i + 1, by go_num, by omega, hid (fun j h => by
              rcases Nat.lt_succ_iff_lt_or_eq.1 h with h | rfl
              · exact HJ.out j h
              · exact HE.out), hx.trans hx5⟩
            case measure => simp [intOf]; omega
          · go_wp2_with fail
            with_reducible refine HCALL.out.mono ?_
            rintro e w5 ⟨rfl, hx5⟩
            go_wp2_with fail
            go_returns
            have hfi := HFN.out i (by rw [ndsOf_length]; exact hil) HE.out HJ.out
            have hxx := hx.trans hx5
            rw [HRE.out]
            unfold putN
            rw [hfi, if_pos (by rw [ndsOf_length]; exact hil)]
            exact ⟨by rfl, _, cM, L1, rfl, ((HM.out.also (A' := A) (fun b h => .inl (.inl h))).ext hxx), HSZN.out, HST.out.trans (Mst.of_ext hxx m m _)⟩
        · obtain rfl : i = L1.length := by omega
          have hfo := HFO.out (by rw [ndsOf_length]; exact HJ.out)
          have HPN : Hid (putN (ndsOf L1) ⟨false, T1, nx⟩ = (ndsOf L1 ++ [⟨false, T1, nx⟩], L1.length)) := hid (by
            unfold putN
            rw [hfo, if_neg (Nat.lt_irrefl _), ndsOf_length])
          have HMA := hid ((HM.out.also (A' := A) (fun b h => .inl (.inl h))).ext hx)
          have hnr : ¬ blkA aq1 = some m := HMA.out.nrow.1
          have HNR := hid hnr
          have hnb : ¬ blkA aq1 = some w.heap.size := fun e => by
            cases aq1 with
            | none => simp [blkA] at e
            | some r =>
              have e2 : r.block = w.heap.size := by simpa [blkA] using e
              exact (HM.out.aqm r rfl).2.2.2 (by rw [e2]; exact .inr (.inl rfl))
          have HNB := hid hnb
          have HSH := hid HMA.out.sh
          have HEX := hid (fun (w' : World) (k : Ext wr.drew w') => HMA.out.ext ((Ext.refl _).drew.trans k))
          obtain ⟨x0, x1, x2⟩ := HBE.out wr hx
          have HXX := hid hx
          have hml3 := HMA.out.bx.lt
          clear hfo hnr hnb hx
          go_wp2_with fail
          refine wp_region_flagM_at 8 7 (Ch (fun b => blkA aq1 = some b)) (Ch (fun b => blkA aq1 = some b)) (fun fl => [fun v _ => v = .pointer (some ⟨m, 0, none⟩), fun v _ => v = .pointer (some ⟨m, 0, none⟩), fun v _ => v = .pointer (some ⟨m, 0, none⟩), fun v _ => v = .pointer (some ⟨m, 0, none⟩), fun v _ => v = .slice aq1 L1.length cM, fun v _ => v = .agg #[.bool false, .string T1, .slice q nx.length cq], fun v w' => fl = false → ∃ g, v = .slice (some ⟨g, 0, none⟩) 1 1 ∧ Rd w' (some ⟨g, 0, none⟩) [.bool false, .string T1, .slice q nx.length cq], fun v w' => fl = true ∧ ∃ g' c', v = .slice (some ⟨g', 0, none⟩) (L1.length + 1) c' ∧ Own w' B 92 3 (some ⟨g', 0, none⟩) (L1.length + 1) c' (ndsV L1 ++ [.bool false, .string T1, .slice q nx.length cq]) ∧ (blkA aq1 = some g' ∨ wr.heap.size ≤ g')])
            [[(0, none)], [(0, none)], [(67, some 1)], [(68, some 2)], [(69, some 3)], [(5, none)], [(71, some 5)], [(70, some 4), (72, some 6)]] (by kernel_rfl) (by kernel_rfl) rfl (by omega) (fun x h => Ch.of_ext _ h) (fun x y h k => h.thenExt k) (fun x y h k => (Ch.of_ext _ h).trans k) ?_ ?_ ?_ ?_
          · intro fl i hi
            obtain rfl | rfl | rfl | rfl | rfl | rfl | rfl | rfl : i = 0 ∨ i = 1 ∨ i = 2 ∨ i = 3 ∨ i = 4 ∨ i = 5 ∨ i = 6 ∨ i = 7 := by omega
            · exact fun _ _ _ h _ => h
            · exact fun _ _ _ h _ => h
            · exact fun _ _ _ h _ => h
            · exact fun _ _ _ h _ => h
            · exact fun _ _ _ h _ => h
            · exact fun _ _ _ h _ => h
            · exact fun v x y h k hf => by obtain ⟨g, e1, e2⟩ := h hf; exact ⟨g, e1, e2.ext k⟩
            · exact fun v x y h k => by obtain ⟨hf, g', c', e1, o1, s1⟩ := h; exact ⟨hf, g', c', e1, o1.ext k, s1⟩
          · intro i hi hiM
            obtain rfl | rfl | rfl | rfl | rfl | rfl | rfl | rfl : i = 0 ∨ i = 1 ∨ i = 2 ∨ i = 3 ∨ i = 4 ∨ i = 5 ∨ i = 6 ∨ i = 7 := by omega
            · exact fun _ _ _ _ h _ => h
            · exact fun _ _ _ _ h _ => h
            · exact fun _ _ _ _ h _ => h
            · exact fun _ _ _ _ h _ => h
            · exact fun _ _ _ _ h _ => h
            · exact fun _ _ _ _ h _ => h
            · exact fun v x y _ _ _ hf => by cases hf
            · exact absurd rfl hiM
          · refine ⟨?_, ?_, ?_, ?_, ?_, ?_, ?_, ?_, trivial⟩
            · rw [if_neg (by decide)]
              rintro fl ρ w1 hw hcst hfn hk
              clear hw
              simp only [known, List.getD_cons_zero, List.getD_cons_succ, Nat.reduceAdd] at hk
              simp only [List.getD_cons_zero, List.getD_cons_succ, Nat.reduceAdd, flowAt]
              go_simp
              exact ⟨Ext.refl _, by first | rfl | trivial⟩
            · rw [if_neg (by decide)]
              rintro fl ρ w1 hw hcst hfn hk
              clear hw
              simp only [known, List.getD_cons_zero, List.getD_cons_succ, Nat.reduceAdd] at hk
              simp only [List.getD_cons_zero, List.getD_cons_succ, Nat.reduceAdd, flowAt]
              go_simp
              exact ⟨Ext.refl _, by first | rfl | trivial⟩
            · rw [if_neg (by decide)]
              rintro fl ρ w1 hw hcst hfn hk
              clear hw
              simp only [known, List.getD_cons_zero, List.getD_cons_succ, Nat.reduceAdd] at hk
              simp only [List.getD_cons_zero, List.getD_cons_succ, Nat.reduceAdd, flowAt]
              go_simp
              exact ⟨Ext.refl _, by first | rfl | trivial⟩
            · rw [if_neg (by decide)]
              rintro fl ρ w1 hw hcst hfn hk
              clear hw
              simp only [known, List.getD_cons_zero, List.getD_cons_succ, Nat.reduceAdd] at hk
              simp only [List.getD_cons_zero, List.getD_cons_succ, Nat.reduceAdd, flowAt]
              go_simp
              exact ⟨Ext.refl _, by first | rfl | trivial⟩
            · rw [if_neg (by decide)]
              rintro fl ρ w1 hw hcst hfn hk
              have c0 := hw.cell (b := m) (o := 0) (v := .slice aq1 L1.length cM) (by first | (simp [*]; done) | (simp [*, go_sem]; done) | go_cell) (by first | exact HNR.out | exact HNB.out)
              clear hw
              simp only [known, List.getD_cons_zero, List.getD_cons_succ, Nat.reduceAdd] at hk
              simp only [List.getD_cons_zero, List.getD_cons_succ, Nat.reduceAdd, flowAt]
              go_simp
              exact ⟨Ext.refl _, by first | rfl | trivial⟩
            · rw [if_neg (by decide)]
              rintro fl ρ w1 hw hcst hfn hk
              have c0 := hw.cell (b := w.heap.size) (o := 0) (v := .bool false) (by first | (simp [*]; done) | (simp [*, go_sem]; done) | go_cell) (by first | exact HNR.out | exact HNB.out)
              have c1 := hw.cell (b := w.heap.size) (o := 1) (v := .string T1) (by first | (simp [*]; done) | (simp [*, go_sem]; done) | go_cell) (by first | exact HNR.out | exact HNB.out)
              have c2 := hw.cell (b := w.heap.size) (o := 2) (v := .slice q nx.length cq) (by first | (simp [*]; done) | (simp [*, go_sem]; done) | go_cell) (by first | exact HNR.out | exact HNB.out)
              clear hw
              simp only [known, List.getD_cons_zero, List.getD_cons_succ, Nat.reduceAdd] at hk
              simp only [List.getD_cons_zero, List.getD_cons_succ, Nat.reduceAdd, flowAt]
              go_simp
              exact ⟨Ext.refl _, by first | rfl | trivial⟩
            · rw [if_neg (by decide)]
              rintro fl ρ w1 hw hcst hfn hk
              simp only [known, List.getD_cons_zero, List.getD_cons_succ, Nat.reduceAdd] at hk
              simp only [List.getD_cons_zero, List.getD_cons_succ, Nat.reduceAdd, flowAt]
              go_simp
              exact ⟨(Ext.refl _).alloc _, fun _ => ⟨w1.heap.size, rfl, rd_of_new rfl [.bool false, .string T1, .slice q nx.length cq] _⟩⟩
            · rw [if_pos (by decide)]
              rintro ρ w1 hw hcst hfn hk
              simp only [known, List.getD_cons_zero, List.getD_cons_succ, Nat.reduceAdd] at hk
              simp only [List.getD_cons_zero, List.getD_cons_succ, Nat.reduceAdd]
              (obtain ⟨g, e1, e2⟩ := hk.2.1 (by trivial); exact invAt_appendO (.tmp 70) (.tmp 72) 28 rfl El_nd hk.1 e1 [.bool false, .string T1, .slice q nx.length cq] e2 rfl (by omega) (by simp [Value.oneCell']) (HEX.out _ hw).own HSH.out (by have := hw.size; have h0 : wr.drew.heap.size = wr.heap.size := rfl; omega) (by unfold maxLen; omega) (by omega) (fun g' c' w' ho hc hs => ⟨hc, by trivial, g', c', rfl, ho, hs.imp id (fun q => Nat.le_trans hw.size q)⟩))
          intro vs w1 hw hf
          simp only [flowFacts, Nat.reduceAdd] at hf
          obtain ⟨e0, e1, e2, e3, e4, e5, e6, e7, -⟩ := hf
          simp only [List.take_succ_cons, List.take_zero, List.drop_succ_cons, List.drop_zero, putAll, Act.put, Nat.reduceAdd, List.setIfInBounds_toArray, List.set_cons_zero, List.set_cons_succ, e0, e1, e2, e3, e4, e5, e6]
          clear e0 e1 e2 e3 e4 e5 e6
          obtain ⟨-, g8, c8, hg8, ho8, hs8⟩ := e7
          rw [hg8]
          have hc8 : Ch (fun b => blkA aq1 = some b) wr w1 := (Ch.of_ext _ (Ext.refl wr).drew).trans hw
          have hb8 := HMA.out.bx.ch hc8 HNR.out
          have e0 := hb8.cell (i := 0) rfl
          have ef := hb8.free 0
          have HPS := hid (HMA.out.push (w1 := w1) ⟨⟨false, T1, nx⟩, q, cq⟩ (HQR.out _ HXX.out) (fun hn p (e : q = some p) => ⟨by have := (HQB.out p e).2; have := HXX.out.size; omega, fun h => HM.out.am.1 (by rw [← h]; exact .inr (.inr (by rw [e]; rfl))), fun h => HM.out.am.2 (by rw [← h]; exact .inr (.inr (by rw [e]; rfl))), fun h => by have := HAL.out _ h; have := (HQB.out p e).1; omega, fun h => by
            cases aq1 with
            | none => simp [blkA] at h
            | some r =>
              have h2 : r.block = p.block := by simpa [blkA] using h
              exact (HM.out.aqm r rfl).2.2.2 (by rw [h2]; exact .inr (.inr (by rw [e]; rfl)))⟩) (fun b hb => by have := HAL.out b hb; omega) ho8 hc8 hs8)
          clear ho8 hc8 hs8 hb8 hw hg8 x0 x1 x2 hm0 HEX HNR HNB HSH
          go_wp2_with fail
          go_returns
          rw [HRE.out, HPN.out]
          refine ⟨by rfl, some ⟨g8, 0, none⟩, c8, L1 ++ [⟨⟨false, T1, nx⟩, q, cq⟩], by simp [ndsOf], HPS.out.1, ?_, HST.out.trans ((Mst.of_ext HXX.out m m aq1).trans HPS.out.2)⟩
          intro n hn
          simp only [ndsOf, List.map_append, List.mem_append] at hn
          rcases hn with hn | hn
          · exact HSZN.out n hn
          · simp at hn
            subst hn
            exact hnx3

set_option maxRecDepth 100000 in
set_option maxHeartbeats 8000000 in
theorem sbuild_yes (B m f : Nat) (ih : ∀ f', f' < f → SBuildC B m f') (S : List ByteArray) (hpos : 0 < S.length) (hz : (wAt S 0).size = 0) (A : Nat → Prop) (aq : Option Addr) (c : Nat) (L : List NdP) (a : Option Addr) (cc : Nat) (w : World)
    (hM : MkS w B m A aq c L) (hSz : SzN (ndsOf L)) (hDn : Dn (ndsOf L)) (hW : WsOk 0 (f + 1) S) (hlen : (S).length ≤ 3000) (hdf : f ≤ 100) (htot : L.length + totL (sufs 0 S) ≤ 199000) (hA : ∀ b, A b → b < w.heap.size) (hB : B ≤ w.heap.size)
    (hR : Rd w a (strsV S)) (hAa : 0 < (S).length → ∀ p, a = some p → A p.block) :
    Calls Tryz.prog 49 #[.pointer (some ⟨m, 0, none⟩), .slice a (S).length cc] w (MkE w B m m 87 [] A NoX aq (bld (f + 1) (ndsOf L) (sufs 0 S))) := by
  have hfb : finB (sufs 0 S) = true := by cases S with | nil => simp at hpos | cons s r => exact (finB_cons (Nat.zero_le _)).trans (decide_eq_true hz)
  have hgo : goOn 0 S = (S).drop 1 := by unfold goOn; rw [hfb]; simp
  have hbw := bld_words f 0 (ndsOf L) S
  rw [hfb, hgo] at hbw
  obtain ⟨R, hRR⟩ : ∃ R, bld (f + 1) (ndsOf L) (sufs 0 S) = R := ⟨_, rfl⟩
  rw [hRR] at hbw ⊢
  obtain ⟨F, hF⟩ : ∃ F, foldW f 0 (ndsOf L, [], []) ((S).drop 1) = F := ⟨_, rfl⟩
  rw [hF] at hbw
  have HRR := hid hbw
  have hW1 := hW.sub (goOn_sub 0 S)
  have hlt1 := goOn_lt hW
  rw [hgo] at hW1 hlt1
  have HIH := hid ih
  have HAL := hid hA
  have HM0 := hid hM
  have hml := hM.bx.lt
  have htl : totL (sufs 0 ((S).drop 1)) = totL (sufs 0 S) := by rw [← hgo, ← restL_sufs, totL_rest]
  have HCR : Hid (∀ wr aq1, Mst w wr m m aq aq1 → Rd wr a (strsV S)) := hid (fun wr aq1 h => h.ch.rd hR (fun p e hn q => (hM.klt _ q).2 (hAa (by simpa [strsV] using hn) p e)))
  have HAA := hid hAa
  obtain ⟨b9, o9, ha9, hc9⟩ := hR.word hpos
  subst ha9
  have hd9 := hc9 0 hpos
  rw [Nat.add_zero] at hd9
  have hb9 := World.block_lt_of_cell? _ _ hd9
  obtain ⟨s0, hs0e⟩ : ∃ s, wAt S 0 = s := ⟨_, rfl⟩
  rw [hs0e] at hd9 hz
  have hp9 : (0 : Int) < (S.length : Int) := by omega
  have hs00 : s0.toList.isEmpty = true := by rw [Lib.toList_data, List.isEmpty_iff]; exact List.eq_nil_of_length_eq_zero (by rw [toL_len]; exact hz)
  clear hc9 hR hs0e
  clear ih hA hRR hbw hAa
  go_enter Tryz.func49, Tryz.ntmps49
  go_wp2_with fail
  have hEn : Ext w (w.alloc (.cells #[.bool true, .string ⟨#[]⟩, .slice none 0 0] 92)) := (Ext.refl w).alloc _
  have HB1 : Hid (Bx (w.alloc (.cells #[.bool true, .string ⟨#[]⟩, .slice none 0 0] 92)) w.heap.size 92 [.bool true, .string ⟨([] : List UInt8).toArray⟩, .slice none ([] : List Int).length 0]) := hid (Bx.new w _ _)
  have HM1 : Hid (MkS (w.alloc (.cells #[.bool true, .string ⟨#[]⟩, .slice none 0 0] 92)) B m (Aq A w.heap.size none) aq c L) := hid ((hM.also (fun b hb => by rcases hb with h | h | h; exact .inl h; exact .inr (Nat.le_of_eq h.symm); simp [blkA] at h)).ext hEn)
  have HST1 := hid (Mst.of_ext hEn m m aq)
  have HOK1 : Hid (BOk (ndsOf L, [], [])) := hid ⟨hDn, rfl, fun j hj => by simp at hj⟩
  have HF := hid hF
  have HW1 := hid hW1
  have HL1 := hid hlt1
  have HKL := hid hM.klo
  have HSZ1 := hid hSz
  clear hM hSz hDn hW hF hW1 hlt1 hEn hfb hgo
  go_loopw [6, 7, 8] (fun v6 _ _ wr => ∃ (k0 : Nat) (lt : List UInt8) (nx : List Int) (q : Option Addr) (cq : Nat) (L1 : List NdP) (aq1 : Option Addr) (cM : Nat),
      v6 = .int .i64 (k0 : Int) ∧ k0 ≤ (S).length ∧ nx.length + ((S).length - k0) ≤ 3000 ∧ Hid (WsOk 0 (f + 1) ((S).drop k0)) ∧ Hid (∀ s ∈ (S).drop k0, 0 < s.size) ∧
      Hid (Bx wr w.heap.size 92 [.bool true, .string ⟨lt.toArray⟩, .slice q nx.length cq]) ∧ Hid (Own wr (w.heap.size + 1) 2 1 q nx.length cq (intsV nx)) ∧ Hid (q = none ∧ nx.length = 0 ∧ cq = 0 ∧ intsV nx = [] ∨ ∃ g, q = some ⟨g, 0, none⟩) ∧ Hid (∀ p, q = some p → w.heap.size < p.block ∧ p.block < wr.heap.size) ∧
      Hid (MkS wr B m (Aq A w.heap.size q) aq1 cM L1) ∧ Hid (SzN (ndsOf L1)) ∧ Hid (Mst w wr m m aq aq1) ∧ Hid (BOk (ndsOf L1, lt, nx)) ∧ Hid (foldW f 0 (ndsOf L1, lt, nx) ((S).drop k0) = F) ∧ L1.length + totL (sufs 0 ((S).drop k0)) ≤ 199000) (fun v6 _ _ _ => (S).length - (intOf v6).toNat)
  case atStart => exact ⟨1, [], [], none, 0, L, aq, c, rfl, by first | omega | simp, by simp; omega, HW1, HL1, HB1, hid (Own.empty _ _ _ _ _), hid (.inl ⟨rfl, rfl, rfl, rfl⟩), hid (fun p hp => by cases hp), HM1, HSZ1, HST1, HOK1, HF, by omega⟩
  case round =>
    clear HB1 HM1 HSZ1 HST1 HOK1 HF HW1 HL1
    obtain ⟨k0, lt, nx, q, cq, L1, aq1, cM, rfl, hk0', hnx, HW, HLT, HBX, HQO, HQS, HQB, HM, HSZN, HST, HOK, HF, htt⟩ := hrel
    have hsz := HST.out.ch.size
    by_cases hlt : k0 < (S).length
    · obtain ⟨k, x, hk0, hk1, hkx, hkin, hkout, hksz, hin2, hout2⟩ := run_at (d := 0) (S := (S).drop k0) (by rw [List.length_drop]; omega) HLT.out
      rw [List.length_drop] at hk1 hkout hksz
      obtain ⟨hstW, hstT⟩ := HW.out.step HLT.out hk0 (by rw [List.length_drop]; exact hk1) hin2 hout2
      have hfp : 0 < f := by
        have h1 := HW.out.hi _ (wAt_mem ((S).drop k0) 0 (by rw [List.length_drop]; omega))
        have h2 := hksz 0 (by omega)
        omega
      have HFS := hid (foldW_step (f := f) (st := (ndsOf L1, lt, nx)) HLT.out hk0 (by rw [List.length_drop]; exact hk1) hin2 hout2)
      obtain ⟨N2, hN2⟩ : ∃ N2, (bld f (ndsOf L1) (sufs 1 (((S).drop k0).take k))).1 = N2 := ⟨_, rfl⟩
      obtain ⟨I, hI2⟩ : ∃ I, (bld f (ndsOf L1) (sufs 1 (((S).drop k0).take k))).2 = I := ⟨_, rfl⟩
      have HOK2 : Hid (BOk (N2, lt ++ [x], nx ++ [(I : Int)])) := hid (by
        obtain ⟨g1, g2, g3⟩ := bld_ok f (ndsOf L1) (sufs 1 (((S).drop k0).take k)) hstW.rise (fun y hy => by
          obtain ⟨s, hs, rfl⟩ := List.mem_map.1 hy
          have h1 := hstW.hi s hs
          have h2 := hstW.lo s hs
          rw [List.length_drop, toL_len]
          omega) hfp HOK.out.1
        have := bldG_ok (bl := bld f) (g := (x, sufs 1 (((S).drop k0).take k))) HOK.out g2 g1 g3
        unfold bldG at this
        rwa [hN2, hI2] at this)
      have HF2 : Hid (foldW f 0 (N2, lt ++ [x], nx ++ [(I : Int)]) ((S).drop (k0 + k)) = F) := hid (by
        have := HFS.out
        unfold bldG at this
        rw [hN2, hI2, List.drop_drop] at this
        rw [← this]
        exact HF.out)
      rw [List.drop_drop] at hstT
      simp only [Nat.zero_add] at hstT hstW
      have htt2 : N2.length + totL (sufs 0 ((S).drop (k0 + k))) ≤ 199000 := by
        have := bld_len f (ndsOf L1) (sufs 1 (((S).drop k0).take k)) hstW.rise
        rw [hN2, ndsOf_length] at this
        omega
      have hlt3 : (((S).drop k0).take k).length = k := by rw [List.length_take, List.length_drop]; omega
      have htt3 : L1.length + totL (sufs 0 ((((S).drop k0).take k).map cut1)) ≤ 199000 := by rw [sufs_cut]; omega
      have HN2 := hid hN2
      have HI2 := hid hI2
      have hHG := HBX.out.lt
      have hlsz : lt.length = nx.length := HOK.out.2.1
      have HRW := hid (HCR.out wr aq1 HST.out)
      have HTL := hid (l06Tails_any _ cc (S) k0 k x wr HRW.out hlen hk0 (by omega) (fun i hi => by rw [← wAt_drop]; exact hkin i hi) (fun h => by rw [← wAt_drop]; exact hkout (by omega)) (fun i hi h => by
        have := hksz (i - k0) (by omega)
        rw [wAt_drop] at this
        rwa [show k0 + (i - k0) = i by omega] at this))
      obtain ⟨b8, o8, ha8, hcW⟩ := HRW.out.word (by omega)
      simp only [Option.some.injEq, Addr.mk.injEq, and_true] at ha8
      obtain ⟨rfl, rfl⟩ := ha8
      have hd1 := hcW k0 hlt
      have hz1 := hksz 0 (by omega)
      rw [wAt_drop, Nat.add_zero] at hz1 hkx
      obtain ⟨s1, hs1⟩ : ∃ s, wAt (S) k0 = s := ⟨_, rfl⟩
      rw [hs1] at hd1 hz1 hkx
      have hx1 : s1[0] = x := by rw [hkx]; exact ltr0_eq hz1
      obtain ⟨T2, hT2⟩ : ∃ T : ByteArray, ⟨(lt ++ [x]).toArray⟩ = T := ⟨_, rfl⟩
      have hcat := cat_first lt hz1 hx1
      rw [hT2] at hcat
      obtain ⟨T1, hT1⟩ : ∃ T : ByteArray, ⟨lt.toArray⟩ = T := ⟨_, rfl⟩
      have hts : T1.size ≤ 3000 := by
        rw [← hT1]
        show lt.toArray.size ≤ 3000
        rw [List.size_toArray]
        omega
      have hz3 : (s1.extract 0 1).size = 1 := by rw [ByteArray.size_extract]; omega
      have n1 : ¬ 9223372036854775807 < T1.size + 1 := by omega
      rw [hT1] at hcat HBX
      have HT2 := hid hT2
      have HCAT := hid hcat
      clear hT2 hT1 hcat hcW hs1 hkx hin2 hout2 hkin hkout hksz hN2 hI2
      go_wp2_with fail
      with_reducible refine HTL.out.mono ?_
      rintro e w2 ⟨gt, ct, rfl, hto, hxt⟩
      have hs2 := hxt.size
      have HB2 := hid (HBX.out.ext hxt)
      have c0 := HB2.out.cell (i := 0) rfl
      have c1' := HB2.out.cell (i := 1) rfl
      have c2 := HB2.out.cell (i := 2) rfl
      have cf := HB2.out.free 1
      replace hd1 := hxt.cell hd1
      have HTO := hid hto
      have HXT := hid hxt
      obtain ⟨p1, hp1⟩ : ∃ p, o9 + k0 = p := ⟨_, rfl⟩
      rw [hp1] at hd1
      have hcat := HCAT.out
      clear hto hxt HTL
      go_wp2_with fail
      refine wp_region_flow_at (C := Ext) 9 [fun v _ => v = .pointer (some ⟨w.heap.size, 1, none⟩), fun v _ => v = .string T1, fun v _ => v = .slice (some ⟨b9, o9, none⟩) S.length cc, fun v _ => v = .int .i64 (k0 : Int), fun v _ => v = .pointer (some ⟨b9, p1, none⟩), fun v _ => v = .string s1, fun v _ => v = .string (s1.extract 0 1), fun v _ => v = .string T2, fun v _ => v = .pointer (some ⟨w.heap.size, 1, none⟩)]
        [[(5, none)], [(31, some 0)], [(1, none)], [(6, none)], [(33, some 2), (34, some 3)], [(35, some 4)], [(36, some 5)], [(32, some 1), (37, some 6)], [(5, none)]] (by kernel_rfl) (by kernel_rfl) Ext.refl (fun _ _ _ => Ext.trans) ?_ ?_ ?_
      · intro F hF
        simp only [List.mem_cons, List.not_mem_nil, or_false] at hF
        rcases hF with rfl | rfl | rfl | rfl | rfl | rfl | rfl | rfl | rfl <;> exact fun _ _ _ h _ => h
      · refine ⟨?_, ?_, ?_, ?_, ?_, ?_, ?_, ?_, ?_, trivial⟩
        · rintro ρ w1 hw hcst hfn hk
          clear hw
          simp only [known, List.getD_cons_zero, List.getD_cons_succ, Nat.reduceAdd] at hk
          simp only [List.getD_cons_zero, List.getD_cons_succ, Nat.reduceAdd, flowAt]
          go_simp
          exact ⟨Ext.refl _, by first | rfl | trivial⟩
        · rintro ρ w1 hw hcst hfn hk
          have c0 := hw.cell (b := w.heap.size) (o := 1) (v := .string T1) (by first | (simp [*]; done) | (simp [*, go_sem]; done) | go_cell)
          clear hw
          simp only [known, List.getD_cons_zero, List.getD_cons_succ, Nat.reduceAdd] at hk
          simp only [List.getD_cons_zero, List.getD_cons_succ, Nat.reduceAdd, flowAt]
          go_simp
          exact ⟨Ext.refl _, by first | rfl | trivial⟩
        · rintro ρ w1 hw hcst hfn hk
          clear hw
          simp only [known, List.getD_cons_zero, List.getD_cons_succ, Nat.reduceAdd] at hk
          simp only [List.getD_cons_zero, List.getD_cons_succ, Nat.reduceAdd, flowAt]
          go_simp
          exact ⟨Ext.refl _, by first | rfl | trivial⟩
        · rintro ρ w1 hw hcst hfn hk
          clear hw
          simp only [known, List.getD_cons_zero, List.getD_cons_succ, Nat.reduceAdd] at hk
          simp only [List.getD_cons_zero, List.getD_cons_succ, Nat.reduceAdd, flowAt]
          go_simp
          exact ⟨Ext.refl _, by first | rfl | trivial⟩
        · rintro ρ w1 hw hcst hfn hk
          simp only [known, List.getD_cons_zero, List.getD_cons_succ, Nat.reduceAdd] at hk
          simp only [List.getD_cons_zero, List.getD_cons_succ, Nat.reduceAdd, flowAt]
          go_simp
          exact ⟨Ext.refl _, by first | rfl | rw [hp1]⟩
        · rintro ρ w1 hw hcst hfn hk
          have c0 := hw.cell (b := b9) (o := p1) (v := .string s1) (by first | (simp [*]; done) | (simp [*, go_sem]; done) | go_cell)
          clear hw
          simp only [known, List.getD_cons_zero, List.getD_cons_succ, Nat.reduceAdd] at hk
          simp only [List.getD_cons_zero, List.getD_cons_succ, Nat.reduceAdd, flowAt]
          go_simp
          exact ⟨Ext.refl _, by first | rfl | trivial⟩
        · rintro ρ w1 hw hcst hfn hk
          simp only [known, List.getD_cons_zero, List.getD_cons_succ, Nat.reduceAdd] at hk
          simp only [List.getD_cons_zero, List.getD_cons_succ, Nat.reduceAdd, flowAt]
          go_simp
          (rw [if_pos (by omega)]; exact ⟨Ext.refl _, rfl⟩)
        · rintro ρ w1 hw hcst hfn hk
          simp only [known, List.getD_cons_zero, List.getD_cons_succ, Nat.reduceAdd] at hk
          simp only [List.getD_cons_zero, List.getD_cons_succ, Nat.reduceAdd, flowAt]
          go_simp
          exact ⟨Ext.refl _, by first | rfl | rw [hcat]⟩
        · rintro ρ w1 hw hcst hfn hk
          clear hw
          simp only [known, List.getD_cons_zero, List.getD_cons_succ, Nat.reduceAdd] at hk
          simp only [List.getD_cons_zero, List.getD_cons_succ, Nat.reduceAdd, flowAt]
          go_simp
          exact ⟨Ext.refl _, by first | rfl | trivial⟩
      intro vs w1 hw hf
      simp only [flowFacts, Nat.reduceAdd] at hf
      obtain ⟨e0, e1, e2, e3, e4, e5, e6, e7, e8, -⟩ := hf
      simp only [List.take_succ_cons, List.take_zero, List.drop_succ_cons, List.drop_zero, putAll, Act.put, Nat.reduceAdd, List.setIfInBounds_toArray, List.set_cons_zero, List.set_cons_succ, e0, e1, e2, e3, e4, e5, e6, e7, e8]
      clear e0 e1 e2 e3 e4 e5 e6 e7 e8
      have hE1 : Ext w2 w1 := (Ext.refl _).drew.trans hw
      have HB3 := hid ((HB2.out.ext hE1).set 1 (.string T2))
      replace c1' := hE1.cell c1'
      replace cf : w1.frozen? ⟨w.heap.size, 1, none⟩ = false := by rw [hE1.cells.2 _ _ (by omega)]; exact cf
      have HXT3 := hid (HXT.out.trans hE1)
      have HTO3 := hid (HTO.out.ext hE1)
      obtain ⟨W3, hW3⟩ : ∃ W, w1.setCell ⟨w.heap.size, 1, none⟩ (.string T2) = W := ⟨_, rfl⟩
      have hc3 := Ch.set w1 w.heap.size 1 (.string T2)
      rw [hW3] at hc3 HB3
      have HC3 := hid hc3
      have hsz3 : W3.heap.size = w1.heap.size := by rw [← hW3]; simp
      have hszw := HXT3.out.size
      clear hw hE1 c0 c2 hd1 hc3
      go_wp2_with fail
      try rw [hW3]
      clear hW3 c1' cf
      have HTO4 := hid (HC3.out.own HTO3.out (fun p e => by
        simp only [Option.some.injEq] at e
        subst e
        obtain ⟨g0, e9, k1, -, -, -⟩ := HTO3.out.form (by omega)
        simp only [Option.some.injEq, Addr.mk.injEq, and_true] at e9
        subst e9
        show ¬ gt = w.heap.size
        omega))
      have hgt : wr.heap.size ≤ gt ∧ gt < W3.heap.size := by
        obtain ⟨g0, e9, k1, k2, -, -⟩ := HTO4.out.form (by omega)
        simp only [Option.some.injEq, Addr.mk.injEq, and_true] at e9
        subst e9
        exact ⟨k1, k2⟩
      have HCW := hid ((Ch.of_ext (fun b => b = w.heap.size) HXT3.out).trans HC3.out)
      have HQ3 := hid (HCW.out.own HQO.out (fun p e => by have := (HQB.out p e).1; omega))
      have HM3 := hid (((HM.out.also (A' := fun b => Aq A w.heap.size q b ∨ b = gt) (fun b hb => by
        rcases hb with h | h
        · exact .inl h
        · exact .inr (by omega))).ch (HCW.out.mono (fun b _ e => .inl (.inr (.inl e))))))
      have hgk : ¬ Kq m m aq1 w.heap.size := fun h => (HM.out.klt _ h).2 (.inr (.inl rfl))
      have HGK := hid hgk
      have hGq : ∀ p, q = some p → p.block ≠ w.heap.size := fun p e => by have := (HQB.out p e).1; omega
      have HC : Hid (∀ w', Ext W3.drew w' → Calls Tryz.prog 49 #[.pointer (some ⟨m, 0, none⟩), .slice (some ⟨gt, 0, none⟩) k ct] w' (MkE w' B m m 87 [] (fun b => Aq A w.heap.size q b ∨ b = gt) NoX aq1 (bld f (ndsOf L1) (sufs 1 (((S).drop k0).take k))))) := hid (by
        intro w' hw'
        obtain ⟨f', rfl⟩ : ∃ f', f = f' + 1 := ⟨f - 1, by omega⟩
        have hw2 : Ext W3 w' := (Ext.refl _).drew.trans hw'
        have hsw := hw2.size
        have := HIH.out f' (by omega) ((((S).drop k0).take k).map cut1) (fun b => Aq A w.heap.size q b ∨ b = gt) aq1 cM L1 (some ⟨gt, 0, none⟩) ct w' (HM3.out.ext hw2) HSZN.out HOK.out.1 hstW.cut (by rw [List.length_map, hlt3]; omega) (by omega) htt3
          (fun b hb => by
            rcases hb with (h | h | h) | h
            · have := HAL.out b h; omega
            · omega
            · cases q with
              | none => simp [blkA] at h
              | some p =>
                have e : p.block = b := by simpa [blkA] using h
                have := (HQB.out p rfl).2
                omega
            · omega) (by omega) (HTO4.out.ext hw2).rd (fun _ p e => by simp only [Option.some.injEq] at e; subst e; exact .inr rfl)
        rw [List.length_map, hlt3, sufs_cut] at this
        exact this)
      have d0 := HB3.out.cell (i := 0) rfl
      have d1 := HB3.out.cell (i := 1) rfl
      have d2 := HB3.out.cell (i := 2) rfl
      clear hgk
      go_wp2_with fail
      refine wp_region_flagM_at 6 4 (Ch (Kq m m aq1)) (Ch (Kq m m aq1)) (fun fl => [fun v _ => v = .pointer (some ⟨w.heap.size, 2, none⟩), fun v _ => v = .slice q nx.length cq, fun v _ => v = .pointer (some ⟨m, 0, none⟩), fun v _ => v = .slice (some ⟨gt, 0, none⟩) k ct, fun v w' => fl = true ∧ v = .int .i64 (I : Int) ∧ SzN N2 ∧ ∃ aq' c' L', ndsOf L' = N2 ∧ MkS w' B m (fun b => Aq A w.heap.size q b ∨ b = gt) aq' c' L' ∧ Mst W3.drew w' m m aq1 aq', fun v w' => fl = true ∧ ∃ g, v = .slice (some ⟨g, 0, none⟩) 1 1 ∧ Rd w' (some ⟨g, 0, none⟩) [.int .i64 (I : Int)]])
        [[(5, none)], [(40, some 0)], [(0, none)], [(7, none)], [(42, some 2), (43, some 3)], [(44, some 4)]] (by kernel_rfl) (by kernel_rfl) rfl (by omega) (fun x h => Ch.of_ext _ h) (fun x y h k => h.thenExt k) (fun x y h k => (Ch.of_ext _ h).trans k) ?_ ?_ ?_ ?_
      · intro fl i hi
        obtain rfl | rfl | rfl | rfl | rfl | rfl : i = 0 ∨ i = 1 ∨ i = 2 ∨ i = 3 ∨ i = 4 ∨ i = 5 := by omega
        · exact fun _ _ _ h _ => h
        · exact fun _ _ _ h _ => h
        · exact fun _ _ _ h _ => h
        · exact fun _ _ _ h _ => h
        · exact fun v x y h k => by obtain ⟨hf, e1, ez, aq', c', L', e2, e3, e5⟩ := h; exact ⟨hf, e1, ez, aq', c', L', e2, e3.ext k, e5.trans (Mst.of_ext k m m aq')⟩
        · exact fun v x y h k => by obtain ⟨hf, g, e1, e2⟩ := h; exact ⟨hf, g, e1, e2.ext k⟩
      · intro i hi hiM
        obtain rfl | rfl | rfl | rfl | rfl | rfl : i = 0 ∨ i = 1 ∨ i = 2 ∨ i = 3 ∨ i = 4 ∨ i = 5 := by omega
        · exact fun _ _ _ _ h _ => h
        · exact fun _ _ _ _ h _ => h
        · exact fun _ _ _ _ h _ => h
        · exact fun _ _ _ _ h _ => h
        · exact absurd rfl hiM
        · exact fun v x y _ h _ => by cases h.1
      · refine ⟨?_, ?_, ?_, ?_, ?_, ?_, trivial⟩
        · rw [if_neg (by decide)]
          rintro fl ρ w1 hw hcst hfn hk
          clear hw
          simp only [known, List.getD_cons_zero, List.getD_cons_succ, Nat.reduceAdd] at hk
          simp only [List.getD_cons_zero, List.getD_cons_succ, Nat.reduceAdd, flowAt]
          go_simp
          exact ⟨Ext.refl _, by first | rfl | trivial⟩
        · rw [if_neg (by decide)]
          rintro fl ρ w1 hw hcst hfn hk
          have c0 := hw.cell (b := w.heap.size) (o := 2) (v := .slice q nx.length cq) (by first | (simp [*]; done) | (simp [*, go_sem]; done) | go_cell) (by exact HGK.out)
          clear hw
          simp only [known, List.getD_cons_zero, List.getD_cons_succ, Nat.reduceAdd] at hk
          simp only [List.getD_cons_zero, List.getD_cons_succ, Nat.reduceAdd, flowAt]
          go_simp
          exact ⟨Ext.refl _, by first | rfl | trivial⟩
        · rw [if_neg (by decide)]
          rintro fl ρ w1 hw hcst hfn hk
          clear hw
          simp only [known, List.getD_cons_zero, List.getD_cons_succ, Nat.reduceAdd] at hk
          simp only [List.getD_cons_zero, List.getD_cons_succ, Nat.reduceAdd, flowAt]
          go_simp
          exact ⟨Ext.refl _, by first | rfl | trivial⟩
        · rw [if_neg (by decide)]
          rintro fl ρ w1 hw hcst hfn hk
          clear hw
          simp only [known, List.getD_cons_zero, List.getD_cons_succ, Nat.reduceAdd] at hk
          simp only [List.getD_cons_zero, List.getD_cons_succ, Nat.reduceAdd, flowAt]
          go_simp
          exact ⟨Ext.refl _, by first | rfl | trivial⟩
        · rw [if_pos (by decide)]
          rintro ρ w1 hw hcst hfn hk
          simp only [known, List.getD_cons_zero, List.getD_cons_succ, Nat.reduceAdd] at hk
          simp only [List.getD_cons_zero, List.getD_cons_succ, Nat.reduceAdd]
          (obtain ⟨h42, h43, -⟩ := hk; unfold invAt execOp; go_simp; refine (HC.out _ hw).mono ?_; rintro e w' ⟨rfl, aq', c', L', e2, e3, e4, e5⟩; first | exact ⟨_, rfl, e5.ch, by rw [HI2.out], by rw [e2, HN2.out] at e4; exact e4, aq', c', L', by rw [e2, HN2.out], e3, (Mst.of_ext hw m m aq1).trans e5⟩ | exact ⟨_, rfl, e5.ch, by trivial, by rw [HI2.out], by rw [e2, HN2.out] at e4; exact e4, aq', c', L', by rw [e2, HN2.out], e3, (Mst.of_ext hw m m aq1).trans e5⟩)
        · rw [if_neg (by decide)]
          rintro fl ρ w1 hw hcst hfn hk
          simp only [known, List.getD_cons_zero, List.getD_cons_succ, Nat.reduceAdd] at hk
          simp only [List.getD_cons_zero, List.getD_cons_succ, Nat.reduceAdd, flowAt]
          go_simp
          exact ⟨(Ext.refl _).alloc _, w1.heap.size, rfl, rd_of_new rfl [.int .i64 (I : Int)] _⟩
      intro vs w1 hw hf
      simp only [flowFacts, Nat.reduceAdd] at hf
      obtain ⟨e0, e1, e2, e3, e4, e5, -⟩ := hf
      simp only [List.take_succ_cons, List.take_zero, List.drop_succ_cons, List.drop_zero, putAll, Act.put, Nat.reduceAdd, List.setIfInBounds_toArray, List.set_cons_zero, List.set_cons_succ, e0, e1, e2, e3]
      clear e0 e1 e2 e3
      obtain ⟨-, e44, eSz, aq', cM', L', eN, hM6, hS6⟩ := e4
      have HSZ6 := hid eSz
      obtain ⟨-, g0, hg0, hgr⟩ := e5
      rw [hg0]
      have HGR := hid hgr
      have hch : Ch (Kq m m aq1) W3 w1 := (Ch.of_ext _ (Ext.refl _).drew).trans hw
      have hkq := HM3.out.klt
      have HB6 := hid (HB3.out.ch hch HGK.out)
      have HQ6 := hid (hch.own HQ3.out (fun p e h => (hkq _ h).2 (.inl (.inr (.inr (by rw [e]; rfl))))))
      have HM6 := hid hM6
      have HS6 := hid hS6
      have HEN := hid eN
      have hz6 := hch.size
      have hgq : ¬ blkA q = some w.heap.size := fun e => by
        cases q with
        | none => simp [blkA] at e
        | some p => exact hGq p rfl (by simpa [blkA] using e)
      have HGQ := hid hgq
      clear hch hw hg0 hgr hM6 hS6 eN e44 eSz d0 d1 d2 hgq hkq
      go_wp2_with (at_builtin; refine wpList_appendO rfl _ _ 90 rfl El_int64 rfl rfl [.int .i64 (I : Int)] HGR.out rfl (by omega) (by simp [Value.oneCell']) HQ6.out HQS.out (by omega) (by unfold maxLen; omega) (by omega) ?_; intro g8 c8 w8 ho8 hc8 hs8; have HO8 := hid ho8; have HC8 := hid hc8; have HS8 := hid hs8; have HB8 := hid (HB6.out.ch hc8 HGQ.out); have e0 := HB8.out.cell (i := 0) rfl; have e1 := HB8.out.cell (i := 1) rfl; have e2 := HB8.out.cell (i := 2) rfl; have ef := HB8.out.free 2; clear ho8 hc8 hs8)
      have HM9 : Hid (MkS (w8.setCell ⟨w.heap.size, 2, none⟩ (.slice (some ⟨g8, 0, none⟩) (nx.length + 1) c8)) B m (Aq A w.heap.size (some ⟨g8, 0, none⟩)) aq' cM' L') := hid (by
        have h7 := HM6.out.also (A' := fun b => Aq A w.heap.size q b ∨ b = g8) (fun b hb => by
          rcases hb with h | rfl
          · exact .inl (.inl h)
          · rcases HS8.out with h | h
            · exact .inl (.inl (.inr (.inr h)))
            · exact .inr h)
        have h9 := (h7.ch (HC8.out.mono (fun b _ e => .inl (.inr (.inr e))))).ch ((Ch.set w8 w.heap.size 2 (.slice (some ⟨g8, 0, none⟩) (nx.length + 1) c8)).mono (fun b _ e => .inl (.inr (.inl e))))
        exact h9.also (fun b hb => by
          rcases hb with h | h | h
          · exact .inl (.inl (.inl h))
          · exact .inl (.inl (.inr (.inl h)))
          · exact .inl (.inr (by simpa [blkA] using h.symm))))
      have HF8 := hid (HO8.out.form (by omega))
      have hg8 : w.heap.size < g8 ∧ g8 < w8.heap.size := by
        obtain ⟨g9, e9, k1, k2, -, -⟩ := HF8.out
        simp only [Option.some.injEq, Addr.mk.injEq, and_true] at e9
        subst e9
        exact ⟨k1, k2⟩
      have HZ9 := hid (Ch.set w8 w.heap.size 2 (.slice (some ⟨g8, 0, none⟩) (nx.length + 1) c8))
      have HST9 := hid (HST.out.weave HCW.out (Nat.le_refl _) ((Mst.of_ext (Ext.refl _).drew m m aq1).trans HS6.out) HC8.out (fun p e => by have := (HQB.out p e).1; omega) HZ9.out)
      have hL2 : L'.length = N2.length := by rw [← HEN.out, ndsOf_length]
      go_roundw
      case rel =>
        refine ⟨k0 + k, lt ++ [x], nx ++ [(I : Int)], some ⟨g8, 0, none⟩, c8, L', aq', cM', by first | rfl | go_num, by omega, by rw [List.length_append]; simp; omega, hid (by rw [← List.drop_drop]; exact HW.out.sub (List.drop_sublist _ _)), hid (by rw [← List.drop_drop]; exact fun s hs => HLT.out s (List.mem_of_mem_drop hs)), hid ?_, hid ?_, hid (.inr ⟨g8, rfl⟩), hid ?_, HM9, hid (by rw [HEN.out]; exact HSZ6.out), HST9, hid ?_, hid ?_, by omega⟩
        · rw [List.length_append, HT2.out]
          exact HB8.out.set 2 _
        · rw [List.length_append, intsV_add]
          exact HZ9.out.own HO8.out (fun p e => by simp only [Option.some.injEq] at e; subst e; simp; omega)
        · intro p e
          simp only [Option.some.injEq] at e
          subst e
          exact ⟨hg8.1, by simpa using hg8.2⟩
        · rw [HEN.out]; exact HOK2.out
        · rw [HEN.out]; exact HF2.out
      case measure => simp [intOf]; omega
    · obtain rfl : k0 = (S).length := by omega
      have hF2 := HF.out
      rw [List.drop_length, foldW_nil] at hF2
      have HFE := hid hF2
      obtain ⟨o1, o2, o3⟩ := HOK.out
      obtain ⟨T1, hT1⟩ : ∃ T : ByteArray, ⟨lt.toArray⟩ = T := ⟨_, rfl⟩
      rw [hT1] at HBX
      have hR : R = putN (ndsOf L1) ⟨true, T1, nx⟩ := by rw [HRR.out, ← HFE.out, ← hT1]
      have HRE := hid hR
      have hts : T1.size = nx.length := by
        rw [← hT1]
        show lt.toArray.size = nx.length
        rw [List.size_toArray]
        exact o2
      have hnx3 : nx.length ≤ 3000 := by simp at hnx; omega
      have hL1 : L1.length ≤ 199000 := by omega
      have hHG := HBX.out.lt
      have HMX : Hid (∀ w', Ext wr w' → MkS w' B m (Aq A w.heap.size q) aq1 cM L1) := hid (fun w' h => HM.out.ext h)
      have HBE : Hid (∀ w', Ext wr w' → NdAt w' w.heap.size 0 true T1 q nx.length cq) := hid (fun w' h => ⟨h.cell (HBX.out.cell (i := 0) rfl), h.cell (HBX.out.cell (i := 1) rfl), h.cell (HBX.out.cell (i := 2) rfl)⟩)
      have HQR : Hid (∀ w', Ext wr w' → Rd w' q (intsV nx)) := hid (fun w' h => (HQO.out.ext h).rd)
      have HFN := hid (fun i => @findN (ndsOf L1) ⟨true, T1, nx⟩ i)
      have HFO := hid (@findN_no (ndsOf L1) ⟨true, T1, nx⟩)
      have hm0 := HM.out.bx.cell (i := 0) rfl
      have hml2 := HM.out.bx.lt
      clear hF2 hT1 hR o1 o2 o3
      go_wp2_with fail
      go_loopw [9] (fun v9 wq => ∃ i : Nat, v9 = .int .i64 (i : Int) ∧ i ≤ L1.length ∧ Hid (∀ j, j < i → eqNd (ndG (ndsOf L1) j) ⟨true, T1, nx⟩ = false) ∧ Ext wr wq) (fun v9 _ => L1.length - (intOf v9).toNat)
      case atStart => exact ⟨0, rfl, by omega, hid (fun j h => by omega), Ext.refl _⟩
      case round =>
        obtain ⟨i, rfl, hi, HJ, hx⟩ := hrel
        have hxs := hx.size
        replace hm0 := hx.cell hm0
        by_cases hil : i < L1.length
        · obtain ⟨bL, oL, rfl, hcl⟩ := (HMX.out wr hx).own.rd.nds (by omega)
          have hck := hcl i hil
          have hgi := ndG_of L1 i
          have hrd := (HMX.out wr hx).rd _ (ndAt_mem L1 i hil)
          have hsi : (ndAt L1 i).nd.nx.length ≤ 3000 := by rw [← hgi]; exact HSZN.out _ (by rw [← ndG_eq (by rw [ndsOf_length]; exact hil)]; exact List.getElem_mem _)
          obtain ⟨p', hp⟩ : ∃ p, ndAt L1 i = p := ⟨_, rfl⟩
          rw [hp] at hck hgi hrd hsi
          obtain ⟨⟨f1, s1, nx1⟩, pa, pc⟩ := p'
          simp only at hck hgi hrd hsi
          obtain ⟨E, hE⟩ : ∃ E, eqNd ⟨f1, s1, nx1⟩ ⟨true, T1, nx⟩ = E := ⟨_, rfl⟩
          obtain ⟨u1, hu1⟩ : ∃ u1, oL + i * 3 = u1 := ⟨_, rfl⟩
          rw [hu1] at hck
          have hcall := l06Equal_any f1 true s1 T1 pa q pc cq bL w.heap.size u1 0 nx1 nx wr hck (HBE.out wr hx) hrd (HQR.out wr hx) (by omega) (by omega)
          rw [hE] at hcall
          have HCALL := hid hcall
          rw [← hgi] at hE
          have HE := hid hE
          clear hcall hE hgi hck hrd hcl hp
          cases E
          · go_wp2_with fail
            with_reducible refine HCALL.out.mono ?_
            rintro e w5 ⟨rfl, hx5⟩
            go_wp2_with fail
            go_roundw
            case rel => exact ⟨i + 1, by go_num, by omega, hid (fun j h => by
              rcases Nat.lt_succ_iff_lt_or_eq.1 h with h | rfl
              · exact HJ.out j h
              · exact HE.out), hx.trans hx5⟩
            case measure => simp [intOf]; omega
          · go_wp2_with fail
            with_reducible refine HCALL.out.mono ?_
            rintro e w5 ⟨rfl, hx5⟩
            go_wp2_with fail
            go_returns
            have hfi := HFN.out i (by rw [ndsOf_length]; exact hil) HE.out HJ.out
            have hxx := hx.trans hx5
            rw [HRE.out]
            unfold putN
            rw [hfi, if_pos (by rw [ndsOf_length]; exact hil)]
            exact ⟨by rfl, _, cM, L1, rfl, ((HM.out.also (A' := A) (fun b h => .inl (.inl h))).ext hxx), HSZN.out, HST.out.trans (Mst.of_ext hxx m m _)⟩
        · obtain rfl : i = L1.length := by omega
          have hfo := HFO.out (by rw [ndsOf_length]; exact HJ.out)
          have HPN : Hid (putN (ndsOf L1) ⟨true, T1, nx⟩ = (ndsOf L1 ++ [⟨true, T1, nx⟩], L1.length)) := hid (by
            unfold putN
            rw [hfo, if_neg (Nat.lt_irrefl _), ndsOf_length])
          have HMA := hid ((HM.out.also (A' := A) (fun b h => .inl (.inl h))).ext hx)
          have hnr : ¬ blkA aq1 = some m := HMA.out.nrow.1
          have HNR := hid hnr
          have hnb : ¬ blkA aq1 = some w.heap.size := fun e => by
            cases aq1 with
            | none => simp [blkA] at e
            | some r =>
              have e2 : r.block = w.heap.size := by simpa [blkA] using e
              exact (HM.out.aqm r rfl).2.2.2 (by rw [e2]; exact .inr (.inl rfl))
          have HNB := hid hnb
          have HSH := hid HMA.out.sh
          have HEX := hid (fun (w' : World) (k : Ext wr.drew w') => HMA.out.ext ((Ext.refl _).drew.trans k))
          obtain ⟨x0, x1, x2⟩ := HBE.out wr hx
          have HXX := hid hx
          have hml3 := HMA.out.bx.lt
          clear hfo hnr hnb hx
          go_wp2_with fail
          refine wp_region_flagM_at 8 7 (Ch (fun b => blkA aq1 = some b)) (Ch (fun b => blkA aq1 = some b)) (fun fl => [fun v _ => v = .pointer (some ⟨m, 0, none⟩), fun v _ => v = .pointer (some ⟨m, 0, none⟩), fun v _ => v = .pointer (some ⟨m, 0, none⟩), fun v _ => v = .pointer (some ⟨m, 0, none⟩), fun v _ => v = .slice aq1 L1.length cM, fun v _ => v = .agg #[.bool true, .string T1, .slice q nx.length cq], fun v w' => fl = false → ∃ g, v = .slice (some ⟨g, 0, none⟩) 1 1 ∧ Rd w' (some ⟨g, 0, none⟩) [.bool true, .string T1, .slice q nx.length cq], fun v w' => fl = true ∧ ∃ g' c', v = .slice (some ⟨g', 0, none⟩) (L1.length + 1) c' ∧ Own w' B 92 3 (some ⟨g', 0, none⟩) (L1.length + 1) c' (ndsV L1 ++ [.bool true, .string T1, .slice q nx.length cq]) ∧ (blkA aq1 = some g' ∨ wr.heap.size ≤ g')])
            [[(0, none)], [(0, none)], [(67, some 1)], [(68, some 2)], [(69, some 3)], [(5, none)], [(71, some 5)], [(70, some 4), (72, some 6)]] (by kernel_rfl) (by kernel_rfl) rfl (by omega) (fun x h => Ch.of_ext _ h) (fun x y h k => h.thenExt k) (fun x y h k => (Ch.of_ext _ h).trans k) ?_ ?_ ?_ ?_
          · intro fl i hi
            obtain rfl | rfl | rfl | rfl | rfl | rfl | rfl | rfl : i = 0 ∨ i = 1 ∨ i = 2 ∨ i = 3 ∨ i = 4 ∨ i = 5 ∨ i = 6 ∨ i = 7 := by omega
            · exact fun _ _ _ h _ => h
            · exact fun _ _ _ h _ => h
            · exact fun _ _ _ h _ => h
            · exact fun _ _ _ h _ => h
            · exact fun _ _ _ h _ => h
            · exact fun _ _ _ h _ => h
            · exact fun v x y h k hf => by obtain ⟨g, e1, e2⟩ := h hf; exact ⟨g, e1, e2.ext k⟩
            · exact fun v x y h k => by obtain ⟨hf, g', c', e1, o1, s1⟩ := h; exact ⟨hf, g', c', e1, o1.ext k, s1⟩
          · intro i hi hiM
            obtain rfl | rfl | rfl | rfl | rfl | rfl | rfl | rfl : i = 0 ∨ i = 1 ∨ i = 2 ∨ i = 3 ∨ i = 4 ∨ i = 5 ∨ i = 6 ∨ i = 7 := by omega
            · exact fun _ _ _ _ h _ => h
            · exact fun _ _ _ _ h _ => h
            · exact fun _ _ _ _ h _ => h
            · exact fun _ _ _ _ h _ => h
            · exact fun _ _ _ _ h _ => h
            · exact fun _ _ _ _ h _ => h
            · exact fun v x y _ _ _ hf => by cases hf
            · exact absurd rfl hiM
          · refine ⟨?_, ?_, ?_, ?_, ?_, ?_, ?_, ?_, trivial⟩
            · rw [if_neg (by decide)]
              rintro fl ρ w1 hw hcst hfn hk
              clear hw
              simp only [known, List.getD_cons_zero, List.getD_cons_succ, Nat.reduceAdd] at hk
              simp only [List.getD_cons_zero, List.getD_cons_succ, Nat.reduceAdd, flowAt]
              go_simp
              exact ⟨Ext.refl _, by first | rfl | trivial⟩
            · rw [if_neg (by decide)]
              rintro fl ρ w1 hw hcst hfn hk
              clear hw
              simp only [known, List.getD_cons_zero, List.getD_cons_succ, Nat.reduceAdd] at hk
              simp only [List.getD_cons_zero, List.getD_cons_succ, Nat.reduceAdd, flowAt]
              go_simp
              exact ⟨Ext.refl _, by first | rfl | trivial⟩
            · rw [if_neg (by decide)]
              rintro fl ρ w1 hw hcst hfn hk
              clear hw
              simp only [known, List.getD_cons_zero, List.getD_cons_succ, Nat.reduceAdd] at hk
              simp only [List.getD_cons_zero, List.getD_cons_succ, Nat.reduceAdd, flowAt]
              go_simp
              exact ⟨Ext.refl _, by first | rfl | trivial⟩
            · rw [if_neg (by decide)]
              rintro fl ρ w1 hw hcst hfn hk
              clear hw
              simp only [known, List.getD_cons_zero, List.getD_cons_succ, Nat.reduceAdd] at hk
              simp only [List.getD_cons_zero, List.getD_cons_succ, Nat.reduceAdd, flowAt]
              go_simp
              exact ⟨Ext.refl _, by first | rfl | trivial⟩
            · rw [if_neg (by decide)]
              rintro fl ρ w1 hw hcst hfn hk
              have c0 := hw.cell (b := m) (o := 0) (v := .slice aq1 L1.length cM) (by first | (simp [*]; done) | (simp [*, go_sem]; done) | go_cell) (by first | exact HNR.out | exact HNB.out)
              clear hw
              simp only [known, List.getD_cons_zero, List.getD_cons_succ, Nat.reduceAdd] at hk
              simp only [List.getD_cons_zero, List.getD_cons_succ, Nat.reduceAdd, flowAt]
              go_simp
              exact ⟨Ext.refl _, by first | rfl | trivial⟩
            · rw [if_neg (by decide)]
              rintro fl ρ w1 hw hcst hfn hk
              have c0 := hw.cell (b := w.heap.size) (o := 0) (v := .bool true) (by first | (simp [*]; done) | (simp [*, go_sem]; done) | go_cell) (by first | exact HNR.out | exact HNB.out)
              have c1 := hw.cell (b := w.heap.size) (o := 1) (v := .string T1) (by first | (simp [*]; done) | (simp [*, go_sem]; done) | go_cell) (by first | exact HNR.out | exact HNB.out)
              have c2 := hw.cell (b := w.heap.size) (o := 2) (v := .slice q nx.length cq) (by first | (simp [*]; done) | (simp [*, go_sem]; done) | go_cell) (by first | exact HNR.out | exact HNB.out)
              clear hw
              simp only [known, List.getD_cons_zero, List.getD_cons_succ, Nat.reduceAdd] at hk
              simp only [List.getD_cons_zero, List.getD_cons_succ, Nat.reduceAdd, flowAt]
              go_simp
              exact ⟨Ext.refl _, by first | rfl | trivial⟩
            · rw [if_neg (by decide)]
              rintro fl ρ w1 hw hcst hfn hk
              simp only [known, List.getD_cons_zero, List.getD_cons_succ, Nat.reduceAdd] at hk
              simp only [List.getD_cons_zero, List.getD_cons_succ, Nat.reduceAdd, flowAt]
              go_simp
              exact ⟨(Ext.refl _).alloc _, fun _ => ⟨w1.heap.size, rfl, rd_of_new rfl [.bool true, .string T1, .slice q nx.length cq] _⟩⟩
            · rw [if_pos (by decide)]
              rintro ρ w1 hw hcst hfn hk
              simp only [known, List.getD_cons_zero, List.getD_cons_succ, Nat.reduceAdd] at hk
              simp only [List.getD_cons_zero, List.getD_cons_succ, Nat.reduceAdd]
              (obtain ⟨g, e1, e2⟩ := hk.2.1 (by trivial); exact invAt_appendO (.tmp 70) (.tmp 72) 28 rfl El_nd hk.1 e1 [.bool true, .string T1, .slice q nx.length cq] e2 rfl (by omega) (by simp [Value.oneCell']) (HEX.out _ hw).own HSH.out (by have := hw.size; have h0 : wr.drew.heap.size = wr.heap.size := rfl; omega) (by unfold maxLen; omega) (by omega) (fun g' c' w' ho hc hs => ⟨hc, by trivial, g', c', rfl, ho, hs.imp id (fun q => Nat.le_trans hw.size q)⟩))
          intro vs w1 hw hf
          simp only [flowFacts, Nat.reduceAdd] at hf
          obtain ⟨e0, e1, e2, e3, e4, e5, e6, e7, -⟩ := hf
          simp only [List.take_succ_cons, List.take_zero, List.drop_succ_cons, List.drop_zero, putAll, Act.put, Nat.reduceAdd, List.setIfInBounds_toArray, List.set_cons_zero, List.set_cons_succ, e0, e1, e2, e3, e4, e5, e6]
          clear e0 e1 e2 e3 e4 e5 e6
          obtain ⟨-, g8, c8, hg8, ho8, hs8⟩ := e7
          rw [hg8]
          have hc8 : Ch (fun b => blkA aq1 = some b) wr w1 := (Ch.of_ext _ (Ext.refl wr).drew).trans hw
          have hb8 := HMA.out.bx.ch hc8 HNR.out
          have e0 := hb8.cell (i := 0) rfl
          have ef := hb8.free 0
          have HPS := hid (HMA.out.push (w1 := w1) ⟨⟨true, T1, nx⟩, q, cq⟩ (HQR.out _ HXX.out) (fun hn p (e : q = some p) => ⟨by have := (HQB.out p e).2; have := HXX.out.size; omega, fun h => HM.out.am.1 (by rw [← h]; exact .inr (.inr (by rw [e]; rfl))), fun h => HM.out.am.2 (by rw [← h]; exact .inr (.inr (by rw [e]; rfl))), fun h => by have := HAL.out _ h; have := (HQB.out p e).1; omega, fun h => by
            cases aq1 with
            | none => simp [blkA] at h
            | some r =>
              have h2 : r.block = p.block := by simpa [blkA] using h
              exact (HM.out.aqm r rfl).2.2.2 (by rw [h2]; exact .inr (.inr (by rw [e]; rfl)))⟩) (fun b hb => by have := HAL.out b hb; omega) ho8 hc8 hs8)
          clear ho8 hc8 hs8 hb8 hw hg8 x0 x1 x2 hm0 HEX HNR HNB HSH
          go_wp2_with fail
          go_returns
          rw [HRE.out, HPN.out]
          refine ⟨by rfl, some ⟨g8, 0, none⟩, c8, L1 ++ [⟨⟨true, T1, nx⟩, q, cq⟩], by simp [ndsOf], HPS.out.1, ?_, HST.out.trans ((Mst.of_ext HXX.out m m aq1).trans HPS.out.2)⟩
          intro n hn
          simp only [ndsOf, List.map_append, List.mem_append] at hn
          rcases hn with hn | hn
          · exact HSZN.out n hn
          · simp at hn
            subst hn
            exact hnx3

set_option maxRecDepth 100000 in
set_option maxHeartbeats 8000000 in
theorem sbuild_nil (B m f : Nat) (ih : ∀ f', f' < f → SBuildC B m f') (S : List ByteArray) (hpos : ¬ 0 < S.length) (A : Nat → Prop) (aq : Option Addr) (c : Nat) (L : List NdP) (a : Option Addr) (cc : Nat) (w : World)
    (hM : MkS w B m A aq c L) (hSz : SzN (ndsOf L)) (hDn : Dn (ndsOf L)) (hW : WsOk 0 (f + 1) S) (hlen : (S).length ≤ 3000) (hdf : f ≤ 100) (htot : L.length + totL (sufs 0 S) ≤ 199000) (hA : ∀ b, A b → b < w.heap.size) (hB : B ≤ w.heap.size)
    (hR : Rd w a (strsV S)) (hAa : 0 < (S).length → ∀ p, a = some p → A p.block) :
    Calls Tryz.prog 49 #[.pointer (some ⟨m, 0, none⟩), .slice a (S).length cc] w (MkE w B m m 87 [] A NoX aq (bld (f + 1) (ndsOf L) (sufs 0 S))) := by
  have hfb : finB (sufs 0 S) = false := by have e := List.eq_nil_of_length_eq_zero (l := S) (by omega); subst e; rfl
  have hgo : goOn 0 S = (S).drop 0 := by unfold goOn; rw [hfb]; simp
  have hbw := bld_words f 0 (ndsOf L) S
  rw [hfb, hgo] at hbw
  obtain ⟨R, hRR⟩ : ∃ R, bld (f + 1) (ndsOf L) (sufs 0 S) = R := ⟨_, rfl⟩
  rw [hRR] at hbw ⊢
  obtain ⟨F, hF⟩ : ∃ F, foldW f 0 (ndsOf L, [], []) ((S).drop 0) = F := ⟨_, rfl⟩
  rw [hF] at hbw
  have HRR := hid hbw
  have hW1 := hW.sub (goOn_sub 0 S)
  have hlt1 := goOn_lt hW
  rw [hgo] at hW1 hlt1
  have HIH := hid ih
  have HAL := hid hA
  have HM0 := hid hM
  have hml := hM.bx.lt
  have htl : totL (sufs 0 ((S).drop 0)) = totL (sufs 0 S) := by rw [← hgo, ← restL_sufs, totL_rest]
  have HCR : Hid (∀ wr aq1, Mst w wr m m aq aq1 → Rd wr a (strsV S)) := hid (fun wr aq1 h => h.ch.rd hR (fun p e hn q => (hM.klt _ q).2 (hAa (by simpa [strsV] using hn) p e)))
  have HAA := hid hAa
  have hp9 : ¬ ((0 : Int) < (S.length : Int)) := by omega
  clear hR
  clear ih hA hRR hbw hAa
  go_enter Tryz.func49, Tryz.ntmps49
  go_wp2_with fail
  have hEn : Ext w (w.alloc (.cells #[.bool false, .string ⟨#[]⟩, .slice none 0 0] 92)) := (Ext.refl w).alloc _
  have HB1 : Hid (Bx (w.alloc (.cells #[.bool false, .string ⟨#[]⟩, .slice none 0 0] 92)) w.heap.size 92 [.bool false, .string ⟨([] : List UInt8).toArray⟩, .slice none ([] : List Int).length 0]) := hid (Bx.new w _ _)
  have HM1 : Hid (MkS (w.alloc (.cells #[.bool false, .string ⟨#[]⟩, .slice none 0 0] 92)) B m (Aq A w.heap.size none) aq c L) := hid ((hM.also (fun b hb => by rcases hb with h | h | h; exact .inl h; exact .inr (Nat.le_of_eq h.symm); simp [blkA] at h)).ext hEn)
  have HST1 := hid (Mst.of_ext hEn m m aq)
  have HOK1 : Hid (BOk (ndsOf L, [], [])) := hid ⟨hDn, rfl, fun j hj => by simp at hj⟩
  have HF := hid hF
  have HW1 := hid hW1
  have HL1 := hid hlt1
  have HKL := hid hM.klo
  have HSZ1 := hid hSz
  clear hM hSz hDn hW hF hW1 hlt1 hEn hfb hgo
  go_loopw [6, 7, 8] (fun v6 _ _ wr => ∃ (k0 : Nat) (lt : List UInt8) (nx : List Int) (q : Option Addr) (cq : Nat) (L1 : List NdP) (aq1 : Option Addr) (cM : Nat),
      v6 = .int .i64 (k0 : Int) ∧ k0 ≤ (S).length ∧ nx.length + ((S).length - k0) ≤ 3000 ∧ Hid (WsOk 0 (f + 1) ((S).drop k0)) ∧ Hid (∀ s ∈ (S).drop k0, 0 < s.size) ∧
      Hid (Bx wr w.heap.size 92 [.bool false, .string ⟨lt.toArray⟩, .slice q nx.length cq]) ∧ Hid (Own wr (w.heap.size + 1) 2 1 q nx.length cq (intsV nx)) ∧ Hid (q = none ∧ nx.length = 0 ∧ cq = 0 ∧ intsV nx = [] ∨ ∃ g, q = some ⟨g, 0, none⟩) ∧ Hid (∀ p, q = some p → w.heap.size < p.block ∧ p.block < wr.heap.size) ∧
      Hid (MkS wr B m (Aq A w.heap.size q) aq1 cM L1) ∧ Hid (SzN (ndsOf L1)) ∧ Hid (Mst w wr m m aq aq1) ∧ Hid (BOk (ndsOf L1, lt, nx)) ∧ Hid (foldW f 0 (ndsOf L1, lt, nx) ((S).drop k0) = F) ∧ L1.length + totL (sufs 0 ((S).drop k0)) ≤ 199000) (fun v6 _ _ _ => (S).length - (intOf v6).toNat)
  case atStart => exact ⟨0, [], [], none, 0, L, aq, c, rfl, by first | omega | simp, by simp; omega, HW1, HL1, HB1, hid (Own.empty _ _ _ _ _), hid (.inl ⟨rfl, rfl, rfl, rfl⟩), hid (fun p hp => by cases hp), HM1, HSZ1, HST1, HOK1, HF, by omega⟩
  case round =>
    clear HB1 HM1 HSZ1 HST1 HOK1 HF HW1 HL1
    obtain ⟨k0, lt, nx, q, cq, L1, aq1, cM, rfl, hk0', hnx, HW, HLT, HBX, HQO, HQS, HQB, HM, HSZN, HST, HOK, HF, htt⟩ := hrel
    have hsz := HST.out.ch.size
    by_cases hlt : k0 < (S).length
    · exact absurd hlt (by omega)
    · obtain rfl : k0 = (S).length := by omega
      have hF2 := HF.out
      rw [List.drop_length, foldW_nil] at hF2
      have HFE := hid hF2
      obtain ⟨o1, o2, o3⟩ := HOK.out
      obtain ⟨T1, hT1⟩ : ∃ T : ByteArray, ⟨lt.toArray⟩ = T := ⟨_, rfl⟩
      rw [hT1] at HBX
      have hR : R = putN (ndsOf L1) ⟨false, T1, nx⟩ := by rw [HRR.out, ← HFE.out, ← hT1]
      have HRE := hid hR
      have hts : T1.size = nx.length := by
        rw [← hT1]
        show lt.toArray.size = nx.length
        rw [List.size_toArray]
        exact o2
      have hnx3 : nx.length ≤ 3000 := by simp at hnx; omega
      have hL1 : L1.length ≤ 199000 := by omega
      have hHG := HBX.out.lt
      have HMX : Hid (∀ w', Ext wr w' → MkS w' B m (Aq A w.heap.size q) aq1 cM L1) := hid (fun w' h => HM.out.ext h)
      have HBE : Hid (∀ w', Ext wr w' → NdAt w' w.heap.size 0 false T1 q nx.length cq) := hid (fun w' h => ⟨h.cell (HBX.out.cell (i := 0) rfl), h.cell (HBX.out.cell (i := 1) rfl), h.cell (HBX.out.cell (i := 2) rfl)⟩)
      have HQR : Hid (∀ w', Ext wr w' → Rd w' q (intsV nx)) := hid (fun w' h => (HQO.out.ext h).rd)
      have HFN := hid (fun i => @findN (ndsOf L1) ⟨false, T1, nx⟩ i)
      have HFO := hid (@findN_no (ndsOf L1) ⟨false, T1, nx⟩)
      have hm0 := HM.out.bx.cell (i := 0) rfl
      have hml2 := HM.out.bx.lt
      clear hF2 hT1 hR o1 o2 o3
      go_wp2_with fail
      go_loopw [9] (fun v9 wq => ∃ i : Nat, v9 = .int .i64 (i : Int) ∧ i ≤ L1.length ∧ Hid (∀ j, j < i → eqNd (ndG (ndsOf L1) j) ⟨false, T1, nx⟩ = false) ∧ Ext wr wq) (fun v9 _ => L1.length - (intOf v9).toNat)
      case atStart => exact ⟨0, rfl, by omega, hid (fun j h => by omega), Ext.refl _⟩
      case round =>
        obtain ⟨i, rfl, hi, HJ, hx⟩ := hrel
        have hxs := hx.size
        replace hm0 := hx.cell hm0
        by_cases hil : i < L1.length
        · obtain ⟨bL, oL, rfl, hcl⟩ := (HMX.out wr hx).own.rd.nds (by omega)
          have hck := hcl i hil
          have hgi := ndG_of L1 i
          have hrd := (HMX.out wr hx).rd _ (ndAt_mem L1 i hil)
          have hsi : (ndAt L1 i).nd.nx.length ≤ 3000 := by rw [← hgi]; exact HSZN.out _ (by rw [← ndG_eq (by rw [ndsOf_length]; exact hil)]; exact List.getElem_mem _)
          obtain ⟨p', hp⟩ : ∃ p, ndAt L1 i = p := ⟨_, rfl⟩
          rw [hp] at hck hgi hrd hsi
          obtain ⟨⟨f1, s1, nx1⟩, pa, pc⟩ := p'
          simp only at hck hgi hrd hsi
          obtain ⟨E, hE⟩ : ∃ E, eqNd ⟨f1, s1, nx1⟩ ⟨false, T1, nx⟩ = E := ⟨_, rfl⟩
          obtain ⟨u1, hu1⟩ : ∃ u1, oL + i * 3 = u1 := ⟨_, rfl⟩
          rw [hu1] at hck
          have hcall := l06Equal_any f1 false s1 T1 pa q pc cq bL w.heap.size u1 0 nx1 nx wr hck (HBE.out wr hx) hrd (HQR.out wr hx) (by omega) (by omega)
          rw [hE] at hcall
          have HCALL := hid hcall
          rw [← hgi] at hE
          have HE := hid hE
          clear hcall hE hgi hck hrd hcl hp
          cases E
          · go_wp2_with fail
            with_reducible refine HCALL.out.mono ?_
            rintro e w5 ⟨rfl, hx5⟩
            go_wp2_with fail
            go_roundw
            case rel => exact ⟨i + 1, by go_num, by omega, hid (fun j h => by
              rcases Nat.lt_succ_iff_lt_or_eq.1 h with h | rfl
              · exact HJ.out j h
              · exact HE.out), hx.trans hx5⟩
            case measure => simp [intOf]; omega
          · go_wp2_with fail
            with_reducible refine HCALL.out.mono ?_
            rintro e w5 ⟨rfl, hx5⟩
            go_wp2_with fail
            go_returns
            have hfi := HFN.out i (by rw [ndsOf_length]; exact hil) HE.out HJ.out
            have hxx := hx.trans hx5
            rw [HRE.out]
            unfold putN
            rw [hfi, if_pos (by rw [ndsOf_length]; exact hil)]
            exact ⟨by rfl, _, cM, L1, rfl, ((HM.out.also (A' := A) (fun b h => .inl (.inl h))).ext hxx), HSZN.out, HST.out.trans (Mst.of_ext hxx m m _)⟩
        · obtain rfl : i = L1.length := by omega
          have hfo := HFO.out (by rw [ndsOf_length]; exact HJ.out)
          have HPN : Hid (putN (ndsOf L1) ⟨false, T1, nx⟩ = (ndsOf L1 ++ [⟨false, T1, nx⟩], L1.length)) := hid (by
            unfold putN
            rw [hfo, if_neg (Nat.lt_irrefl _), ndsOf_length])
          have HMA := hid ((HM.out.also (A' := A) (fun b h => .inl (.inl h))).ext hx)
          have hnr : ¬ blkA aq1 = some m := HMA.out.nrow.1
          have HNR := hid hnr
          have hnb : ¬ blkA aq1 = some w.heap.size := fun e => by
            cases aq1 with
            | none => simp [blkA] at e
            | some r =>
              have e2 : r.block = w.heap.size := by simpa [blkA] using e
              exact (HM.out.aqm r rfl).2.2.2 (by rw [e2]; exact .inr (.inl rfl))
          have HNB := hid hnb
          have HSH := hid HMA.out.sh
          have HEX := hid (fun (w' : World) (k : Ext wr.drew w') => HMA.out.ext ((Ext.refl _).drew.trans k))
          obtain ⟨x0, x1, x2⟩ := HBE.out wr hx
          have HXX := hid hx
          have hml3 := HMA.out.bx.lt
          clear hfo hnr hnb hx
          go_wp2_with fail
          refine wp_region_flagM_at 8 7 (Ch (fun b => blkA aq1 = some b)) (Ch (fun b => blkA aq1 = some b)) (fun fl => [fun v _ => v = .pointer (some ⟨m, 0, none⟩), fun v _ => v = .pointer (some ⟨m, 0, none⟩), fun v _ => v = .pointer (some ⟨m, 0, none⟩), fun v _ => v = .pointer (some ⟨m, 0, none⟩), fun v _ => v = .slice aq1 L1.length cM, fun v _ => v = .agg #[.bool false, .string T1, .slice q nx.length cq], fun v w' => fl = false → ∃ g, v = .slice (some ⟨g, 0, none⟩) 1 1 ∧ Rd w' (some ⟨g, 0, none⟩) [.bool false, .string T1, .slice q nx.length cq], fun v w' => fl = true ∧ ∃ g' c', v = .slice (some ⟨g', 0, none⟩) (L1.length + 1) c' ∧ Own w' B 92 3 (some ⟨g', 0, none⟩) (L1.length + 1) c' (ndsV L1 ++ [.bool false, .string T1, .slice q nx.length cq]) ∧ (blkA aq1 = some g' ∨ wr.heap.size ≤ g')])
            [[(0, none)], [(0, none)], [(67, some 1)], [(68, some 2)], [(69, some 3)], [(5, none)], [(71, some 5)], [(70, some 4), (72, some 6)]] (by kernel_rfl) (by kernel_rfl) rfl (by omega) (fun x h => Ch.of_ext _ h) (fun x y h k => h.thenExt k) (fun x y h k => (Ch.of_ext _ h).trans k) ?_ ?_ ?_ ?_
          · intro fl i hi
            obtain rfl | rfl | rfl | rfl | rfl | rfl | rfl | rfl : i = 0 ∨ i = 1 ∨ i = 2 ∨ i = 3 ∨ i = 4 ∨ i = 5 ∨ i = 6 ∨ i = 7 := by omega
            · exact fun _ _ _ h _ => h
            · exact fun _ _ _ h _ => h
            · exact fun _ _ _ h _ => h
            · exact fun _ _ _ h _ => h
            · exact fun _ _ _ h _ => h
            · exact fun _ _ _ h _ => h
            · exact fun v x y h k hf => by obtain ⟨g, e1, e2⟩ := h hf; exact ⟨g, e1, e2.ext k⟩
            · exact fun v x y h k => by obtain ⟨hf, g', c', e1, o1, s1⟩ := h; exact ⟨hf, g', c', e1, o1.ext k, s1⟩
          · intro i hi hiM
            obtain rfl | rfl | rfl | rfl | rfl | rfl | rfl | rfl : i = 0 ∨ i = 1 ∨ i = 2 ∨ i = 3 ∨ i = 4 ∨ i = 5 ∨ i = 6 ∨ i = 7 := by omega
            · exact fun _ _ _ _ h _ => h
            · exact fun _ _ _ _ h _ => h
            · exact fun _ _ _ _ h _ => h
            · exact fun _ _ _ _ h _ => h
            · exact fun _ _ _ _ h _ => h
            · exact fun _ _ _ _ h _ => h
            · exact fun v x y _ _ _ hf => by cases hf
            · exact absurd rfl hiM
          · refine ⟨?_, ?_, ?_, ?_, ?_, ?_, ?_, ?_, trivial⟩
            · rw [if_neg (by decide)]
              rintro fl ρ w1 hw hcst hfn hk
              clear hw
              simp only [known, List.getD_cons_zero, List.getD_cons_succ, Nat.reduceAdd] at hk
              simp only [List.getD_cons_zero, List.getD_cons_succ, Nat.reduceAdd, flowAt]
              go_simp
              exact ⟨Ext.refl _, by first | rfl | trivial⟩
            · rw [if_neg (by decide)]
              rintro fl ρ w1 hw hcst hfn hk
              clear hw
              simp only [known, List.getD_cons_zero, List.getD_cons_succ, Nat.reduceAdd] at hk
              simp only [List.getD_cons_zero, List.getD_cons_succ, Nat.reduceAdd, flowAt]
              go_simp
              exact ⟨Ext.refl _, by first | rfl | trivial⟩
            · rw [if_neg (by decide)]
              rintro fl ρ w1 hw hcst hfn hk
              clear hw
              simp only [known, List.getD_cons_zero, List.getD_cons_succ, Nat.reduceAdd] at hk
              simp only [List.getD_cons_zero, List.getD_cons_succ, Nat.reduceAdd, flowAt]
              go_simp
              exact ⟨Ext.refl _, by first | rfl | trivial⟩
            · rw [if_neg (by decide)]
              rintro fl ρ w1 hw hcst hfn hk
              clear hw
              simp only [known, List.getD_cons_zero, List.getD_cons_succ, Nat.reduceAdd] at hk
              simp only [List.getD_cons_zero, List.getD_cons_succ, Nat.reduceAdd, flowAt]
              go_simp
              exact ⟨Ext.refl _, by first | rfl | trivial⟩
            · rw [if_neg (by decide)]
              rintro fl ρ w1 hw hcst hfn hk
              have c0 := hw.cell (b := m) (o := 0) (v := .slice aq1 L1.length cM) (by first | (simp [*]; done) | (simp [*, go_sem]; done) | go_cell) (by first | exact HNR.out | exact HNB.out)
              clear hw
              simp only [known, List.getD_cons_zero, List.getD_cons_succ, Nat.reduceAdd] at hk
              simp only [List.getD_cons_zero, List.getD_cons_succ, Nat.reduceAdd, flowAt]
              go_simp
              exact ⟨Ext.refl _, by first | rfl | trivial⟩
            · rw [if_neg (by decide)]
              rintro fl ρ w1 hw hcst hfn hk
              have c0 := hw.cell (b := w.heap.size) (o := 0) (v := .bool false) (by first | (simp [*]; done) | (simp [*, go_sem]; done) | go_cell) (by first | exact HNR.out | exact HNB.out)
              have c1 := hw.cell (b := w.heap.size) (o := 1) (v := .string T1) (by first | (simp [*]; done) | (simp [*, go_sem]; done) | go_cell) (by first | exact HNR.out | exact HNB.out)
              have c2 := hw.cell (b := w.heap.size) (o := 2) (v := .slice q nx.length cq) (by first | (simp [*]; done) | (simp [*, go_sem]; done) | go_cell) (by first | exact HNR.out | exact HNB.out)
              clear hw
              simp only [known, List.getD_cons_zero, List.getD_cons_succ, Nat.reduceAdd] at hk
              simp only [List.getD_cons_zero, List.getD_cons_succ, Nat.reduceAdd, flowAt]
              go_simp
              exact ⟨Ext.refl _, by first | rfl | trivial⟩
            · rw [if_neg (by decide)]
              rintro fl ρ w1 hw hcst hfn hk
              simp only [known, List.getD_cons_zero, List.getD_cons_succ, Nat.reduceAdd] at hk
              simp only [List.getD_cons_zero, List.getD_cons_succ, Nat.reduceAdd, flowAt]
              go_simp
              exact ⟨(Ext.refl _).alloc _, fun _ => ⟨w1.heap.size, rfl, rd_of_new rfl [.bool false, .string T1, .slice q nx.length cq] _⟩⟩
            · rw [if_pos (by decide)]
              rintro ρ w1 hw hcst hfn hk
              simp only [known, List.getD_cons_zero, List.getD_cons_succ, Nat.reduceAdd] at hk
              simp only [List.getD_cons_zero, List.getD_cons_succ, Nat.reduceAdd]
              (obtain ⟨g, e1, e2⟩ := hk.2.1 (by trivial); exact invAt_appendO (.tmp 70) (.tmp 72) 28 rfl El_nd hk.1 e1 [.bool false, .string T1, .slice q nx.length cq] e2 rfl (by omega) (by simp [Value.oneCell']) (HEX.out _ hw).own HSH.out (by have := hw.size; have h0 : wr.drew.heap.size = wr.heap.size := rfl; omega) (by unfold maxLen; omega) (by omega) (fun g' c' w' ho hc hs => ⟨hc, by trivial, g', c', rfl, ho, hs.imp id (fun q => Nat.le_trans hw.size q)⟩))
          intro vs w1 hw hf
          simp only [flowFacts, Nat.reduceAdd] at hf
          obtain ⟨e0, e1, e2, e3, e4, e5, e6, e7, -⟩ := hf
          simp only [List.take_succ_cons, List.take_zero, List.drop_succ_cons, List.drop_zero, putAll, Act.put, Nat.reduceAdd, List.setIfInBounds_toArray, List.set_cons_zero, List.set_cons_succ, e0, e1, e2, e3, e4, e5, e6]
          clear e0 e1 e2 e3 e4 e5 e6
          obtain ⟨-, g8, c8, hg8, ho8, hs8⟩ := e7
          rw [hg8]
          have hc8 : Ch (fun b => blkA aq1 = some b) wr w1 := (Ch.of_ext _ (Ext.refl wr).drew).trans hw
          have hb8 := HMA.out.bx.ch hc8 HNR.out
          have e0 := hb8.cell (i := 0) rfl
          have ef := hb8.free 0
          have HPS := hid (HMA.out.push (w1 := w1) ⟨⟨false, T1, nx⟩, q, cq⟩ (HQR.out _ HXX.out) (fun hn p (e : q = some p) => ⟨by have := (HQB.out p e).2; have := HXX.out.size; omega, fun h => HM.out.am.1 (by rw [← h]; exact .inr (.inr (by rw [e]; rfl))), fun h => HM.out.am.2 (by rw [← h]; exact .inr (.inr (by rw [e]; rfl))), fun h => by have := HAL.out _ h; have := (HQB.out p e).1; omega, fun h => by
            cases aq1 with
            | none => simp [blkA] at h
            | some r =>
              have h2 : r.block = p.block := by simpa [blkA] using h
              exact (HM.out.aqm r rfl).2.2.2 (by rw [h2]; exact .inr (.inr (by rw [e]; rfl)))⟩) (fun b hb => by have := HAL.out b hb; omega) ho8 hc8 hs8)
          clear ho8 hc8 hs8 hb8 hw hg8 x0 x1 x2 hm0 HEX HNR HNB HSH
          go_wp2_with fail
          go_returns
          rw [HRE.out, HPN.out]
          refine ⟨by rfl, some ⟨g8, 0, none⟩, c8, L1 ++ [⟨⟨false, T1, nx⟩, q, cq⟩], by simp [ndsOf], HPS.out.1, ?_, HST.out.trans ((Mst.of_ext HXX.out m m aq1).trans HPS.out.2)⟩
          intro n hn
          simp only [ndsOf, List.map_append, List.mem_append] at hn
          rcases hn with hn | hn
          · exact HSZN.out n hn
          · simp at hn
            subst hn
            exact hnx3

theorem sbuild_any (B m f : Nat) : SBuildC B m f := by
  induction f using Nat.strongRecOn with
  | _ f ih =>
    intro S A aq c L a cc w h1 hz2 h2 h3 h4 h5 h6 h7 h8 h9 h10
    by_cases hpos : 0 < S.length
    · by_cases hz : (wAt S 0).size = 0
      · exact sbuild_yes B m f ih S hpos hz A aq c L a cc w h1 hz2 h2 h3 h4 h5 h6 h7 h8 h9 h10
      · exact sbuild_no B m f ih S hpos hz A aq c L a cc w h1 hz2 h2 h3 h4 h5 h6 h7 h8 h9 h10
    · exact sbuild_nil B m f ih S hpos A aq c L a cc w h1 hz2 h2 h3 h4 h5 h6 h7 h8 h9 h10
end Go.Proofs.YtabljchbchjjcaaGreatDoor
