/- The words of an automaton, in order: the closure; (Dawg).words. Conditions: the renumbered nodes of what was built; at most 200000 words. -/
import Derived.Test.YtabljchbchjjcaaGreatDoorMg9
import Derived.Laws.EntriesVeiled
namespace Go.Proofs.YtabljchbchjjcaaGreatDoor
set_option linter.unusedVariables false
set_option linter.unusedSimpArgs false
open Go Go.RowKit
/-- A text before, a text behind. -/
def wrd (s t : List UInt8) : ByteArray := ⟨(s ++ t).toArray⟩
theorem wrd_cons (s : List UInt8) (c : UInt8) (t : List UInt8) : wrd s (c :: t) = wrd (s ++ [c]) t := by simp [wrd]
theorem partN_pre {N : List Nd} (hN : Dn N) {k : Nat} (hk : k < N.length) {i : Nat} (hi : i ≤ (edg N k).length) : (partN N k i).length ≤ (langN N k).length := by
  rw [lang_eq hN hk]
  unfold partN
  rw [List.length_append, List.length_append]
  have e := congrArg (fun l => (l.flatMap fun e : UInt8 × Nat => (langN N e.2).map (e.1 :: ·)).length) (List.take_append_drop i (edg N k))
  simp only [List.flatMap_append, List.length_append] at e
  omega
abbrev wordsV (db lb bb vb : Nat) : Value := .func (.func 55) #[] #[.pointer (some ⟨db, 0, none⟩), .pointer (some ⟨lb, 0, none⟩), .pointer (some ⟨bb, 0, none⟩), .pointer (some ⟨vb, 0, none⟩)]
def WalkC (B db lb bb vb : Nat) (aD : Option Addr) (cD : Nat) (LD : List NdP) (N : List Nd) (O : List Nat) (f : Nat) : Prop := ∀ (x : Nat) (l : List ByteArray) (s : List UInt8) (A : Nat → Prop) (gL cL gB cB : Nat) (w : World),
  x < f → x ∈ O → WsI w B lb bb A gL cL gB cB l s → A db → A vb → w.cell? ⟨db, 0, none⟩ = some (.slice aD LD.length cD) → w.cell? ⟨vb, 0, none⟩ = some (wordsV db lb bb vb) → s.length + x ≤ 200000 → l.length + (langN N x).length ≤ 200000 → (∀ w', Below B w w' → DgRd w' aD LD) →
  Calls Tryz.prog 55 #[.int .i64 (O.idxOf x : Nat), .pointer (some ⟨db, 0, none⟩), .pointer (some ⟨lb, 0, none⟩), .pointer (some ⟨bb, 0, none⟩), .pointer (some ⟨vb, 0, none⟩)] w fun e w' => e = .returned (.tuple #[]) ∧ ∃ gL' cL' gB' cB', WsI w' B lb bb A gL' cL' gB' cB' (l ++ (langN N x).map (wrd s)) s ∧ Wst lb bb w w' gL gB gL' gB'
set_option maxRecDepth 100000 in
set_option maxHeartbeats 8000000 in
theorem walk_non (B db lb bb vb : Nat) (aD : Option Addr) (cD : Nat) (LD : List NdP) (N : List Nd) (O : List Nat) (f : Nat) (ih : WalkC B db lb bb vb aD cD LD N O f) (hN : Dn N) (hO : ∀ z ∈ O, z < N.length) (hc : ∀ z ∈ O, ∀ j ∈ nxs N z, j ∈ O) (hnd : O.Nodup) (hM : ndsOf LD = numM N O) (hl : N.length ≤ 200000) (hnl : ∀ z, z < N.length → (ndG N z).nx.length ≤ 100000)
    (x : Nat) (l : List ByteArray) (s : List UInt8) (A : Nat → Prop) (gL cL gB cB : Nat) (w : World) (hxf : x ≤ f) (hx : x ∈ O) (hW : WsI w B lb bb A gL cL gB cB l s) (hdb : A db) (hvb : A vb) (cdb : w.cell? ⟨db, 0, none⟩ = some (.slice aD LD.length cD)) (cvb : w.cell? ⟨vb, 0, none⟩ = some (wordsV db lb bb vb)) (hsx : s.length + x ≤ 200000) (hlx : l.length + (langN N x).length ≤ 200000) (hR : ∀ w', Below B w w' → DgRd w' aD LD) (lt : ByteArray) (nx0 : List Int) (hgN : ndG N x = ⟨false, lt, nx0⟩) :
    Calls Tryz.prog 55 #[.int .i64 (O.idxOf x : Nat), .pointer (some ⟨db, 0, none⟩), .pointer (some ⟨lb, 0, none⟩), .pointer (some ⟨bb, 0, none⟩), .pointer (some ⟨vb, 0, none⟩)] w fun e w' => e = .returned (.tuple #[]) ∧ ∃ gL' cL' gB' cB', WsI w' B lb bb A gL' cL' gB' cB' (l ++ (langN N x).map (wrd s)) s ∧ Wst lb bb w w' gL gB gL' gB' := by
  have hxN := hO x hx
  have hOl : O.length ≤ N.length := nodup_len hnd hO
  have hLD : LD.length = O.length := by rw [← ndsOf_length LD, hM, numM_len]
  have hkO := List.idxOf_lt_length_of_mem hx
  obtain ⟨p0, hp0⟩ : ∃ p, ndAt LD (O.idxOf x) = p := ⟨_, rfl⟩
  obtain ⟨nd0, pa, pc⟩ := p0
  have hnd0 : nd0 = ⟨false, lt, nx0.map fun j => (O.idxOf j.toNat : Int)⟩ := by
    have h1 := ndG_nd LD (O.idxOf x)
    rw [hp0, hM, numM_at hx] at h1
    unfold numN at h1
    rw [hgN] at h1
    exact h1.symm
  subst hnd0
  obtain ⟨k, hk⟩ : ∃ k, O.idxOf x = k := ⟨_, rfl⟩
  rw [hk] at hp0 hkO ⊢
  have HPM : Hid (⟨⟨false, lt, nx0.map fun j => (O.idxOf j.toNat : Int)⟩, pa, pc⟩ ∈ LD) := hid (by rw [← hp0]; exact ndAt_mem LD _ (by omega))
  obtain ⟨bN, oN, rfl, hcl⟩ := (hR w (Below.refl _ _)).1.nds (by omega)
  obtain ⟨q, hq⟩ : ∃ q, oN + k * 3 = q := ⟨_, rfl⟩
  obtain ⟨y0, y1, y2⟩ := hcl k (by omega)
  rw [hp0, hq] at y0 y1 y2
  simp only [List.length_map] at y0 y1 y2
  have hnxl : nx0.length ≤ 100000 := by have := hnl x hxN; rw [hgN] at this; exact this
  have hlsz : lt.size = nx0.length := by have := (hN x hxN).1; rw [hgN] at this; exact this
  have hBw : B ≤ w.heap.size := by have := hW.lo.1; have := hW.lx.lt; omega
  have hxn : Ext w (w.alloc (.cells #[.bool false, .string lt, .slice pa nx0.length pc] 92)) := (Ext.refl _).alloc _
  have HW1 : Hid (WsI (w.alloc (.cells #[.bool false, .string lt, .slice pa nx0.length pc] 92)) B lb bb (fun b => A b ∨ b = w.heap.size) gL cL gB cB l s) := hid ((hW.ext hxn).also (fun b hb => by
    rcases hb with h | rfl
    · exact ⟨Nat.lt_of_lt_of_le (hW.al b h) hxn.size, hW.av b h⟩
    · exact ⟨by simp, fun e => by have := (hW.kw _ e).1; omega⟩))
  have HB1 : Hid (Bx (w.alloc (.cells #[.bool false, .string lt, .slice pa nx0.length pc] 92)) w.heap.size 92 [.bool false, .string lt, .slice pa nx0.length pc]) := hid (Bx.new _ _ _)
  have z0 := HW1.out.lx.cell (i := 0) rfl
  have z1 := HW1.out.bx.cell (i := 0) rfl
  have HW0 := hid hW
  have HIH := hid ih
  have HR := hid hR
  have HNN := hid hN
  have HGN := hid hgN
  have HCL := hid hc
  have hed : (edg N x).length = nx0.length := by rw [edg_len hN hxN, hgN]
  have HED := hid hed
  have HK := hid hk
  have HDB := hid hdb
  have HVB := hid hvb
  have CDB := hid cdb
  have CVB := hid cvb
  have HPL := hid (fun i h => partN_pre (i := i) hN hxN h)
  have hfin : (partN N x nx0.length).map (wrd s) = (langN N x).map (wrd s) := by rw [← hed, partN_all hN hxN]
  have HFIN := hid hfin
  clear hcl hp0 hM hc ih hR hN hgN hed hk hW hdb hvb hfin hnl hnd
  go_enter Tryz.func55, Tryz.ntmps55
  have HW2 : Hid (WsI (w.alloc (.cells #[.bool false, .string lt, .slice pa nx0.length pc] 92)) B lb bb (fun b => A b ∨ b = w.heap.size) gL cL gB cB (l ++ (partN N x 0).map (wrd s)) s) := hid (by
    rw [partN_zero, HGN.out]
    simpa using HW1.out)
  have HS2 : Hid (Wst lb bb w (w.alloc (.cells #[.bool false, .string lt, .slice pa nx0.length pc] 92)) gL gB gL gB) := hid (Wst.of_ext hxn)
  have HB2 := HB1
  go_wp2_with fail
  obtain ⟨gL2, hgL2⟩ : ∃ g, gL = g := ⟨_, rfl⟩
  obtain ⟨cL2, hcL2⟩ : ∃ g, cL = g := ⟨_, rfl⟩
  go_loopw [24] (fun v24 wr => ∃ (i gL1 cL1 gB1 cB1 : Nat), v24 = .int .i64 (i : Int) ∧ i ≤ nx0.length ∧ Hid (WsI wr B lb bb (fun b => A b ∨ b = w.heap.size) gL1 cL1 gB1 cB1 (l ++ (partN N x i).map (wrd s)) s) ∧ Hid (Wst lb bb w wr gL gB gL1 gB1) ∧
    Hid (Bx wr w.heap.size 92 [.bool false, .string lt, .slice pa nx0.length pc])) (fun v24 _ => nx0.length - (intOf v24).toNat)
  case atStart => exact ⟨0, _, _, _, _, rfl, by omega, HW2, HS2, HB2⟩
  case round =>
    clear HW2 HS2 HB2
    obtain ⟨i, gL1, cL1, gB1, cB1, rfl, hi, HW, HST, HB⟩ := hrel
    by_cases hil : i < nx0.length
    · have hkw0 := HW0.out.kw
      have HBE : Hid (Below B w wr) := hid (HST.out.1.below hBw (fun b e => (hkw0 b e).2))
      obtain ⟨bx, ox, rfl, hcx⟩ := ((HR.out wr HBE.out).2 _ HPM.out).int (show 0 < (nx0.map fun j => (O.idxOf j.toNat : Int)).length by rw [List.length_map]; omega)
      have hcj := hcx i (by rw [List.length_map]; exact hil)
      rw [List.getElem_map] at hcj
      clear hcx hkw0
      obtain ⟨y, hy⟩ : ∃ y, (nx0[i]).toNat = y := ⟨_, rfl⟩
      rw [hy] at hcj
      have hyn : y ∈ nxs N x := by unfold nxs; rw [HGN.out, ← hy]; exact List.mem_map_of_mem (List.getElem_mem hil)
      have hyx : y < x := HNN.out.nxs hxN y hyn
      have hyO := HCL.out x hx y hyn
      obtain ⟨c, hcc⟩ : ∃ c, lt.data.toList[i]'(by rw [toL_len', hlsz]; exact hil) = c := ⟨_, rfl⟩
      have he1 : (edg N x)[i]'(by rw [HED.out]; exact hil) = (c, y) := by
        have h := edg_at HNN.out hxN (i := i) (by rw [HGN.out]; exact hil)
        rw [h]
        simp only [HGN.out]
        rw [hcc, hy]
      have hps := partN_succ (N := N) (k := x) (i := i) (by rw [HED.out]; exact hil)
      rw [he1] at hps
      simp only at hps
      have hpl := HPL.out (i + 1) (by rw [HED.out]; omega)
      have hpl2 := hpl
      rw [hps, List.length_append, List.length_map] at hpl2
      have hcb : lt.data[i]? = some c := by
        rw [← hcc, Array.getElem_toList]
        exact Array.getElem?_eq_getElem _
      have HCI : Hid (∀ h, lt[i]'h = c) := hid (fun h => by rw [← hcc, Array.getElem_toList]; rfl)
      have HCB := hid hcb
      have HPS := hid hps
      have HHY := hid hyO
      have r0 := HB.out.cell (i := 1) rfl
      have r1 := HW.out.bx.cell (i := 0) rfl
      have r2 := HW.out.lx.cell (i := 0) rfl
      have r3 := HB.out.cell (i := 2) rfl
      have rf := HW.out.bx.free 0
      clear hy hyn hyO hcc he1 hps hcb hpl
      go_wp2_with fail
      have HN1 : Hid (¬ blkA (some (⟨gB1, 0, none⟩ : Addr)) = some bb) := hid (fun e => HW.out.ne.2.2.2.2.1 (by simpa [blkA] using e))
      have HN2 : Hid (¬ blkA (some (⟨gB1, 0, none⟩ : Addr)) = some w.heap.size) := hid (fun e => HW.out.av w.heap.size (.inr rfl) (.inr (.inr (.inr (by simpa [blkA] using e.symm)))))
      have hwr := HW.out.kw
      have hBr : B ≤ wr.heap.size := by have := HBE.out.size; omega
      refine wp_region_flagM_at 7 6 (Ch (fun b => blkA (some (⟨gB1, 0, none⟩ : Addr)) = some b)) (Ch (fun b => blkA (some (⟨gB1, 0, none⟩ : Addr)) = some b)) (fun fl => [fun v _ => v = .slice (some ⟨gB1, 0, none⟩) s.length cB1, fun v _ => v = .pointer (some ⟨w.heap.size, 1, none⟩), fun v _ => v = .string lt, fun v _ => v = .int .i64 (i : Int), fun v _ => v = .int .u8 (c.toNat : Int), fun v w' => fl = false → ∃ g, v = .slice (some ⟨g, 0, none⟩) 1 1 ∧ Rd w' (some ⟨g, 0, none⟩) [.int .u8 (c.toNat : Int)], fun v w' => fl = true ∧ ∃ g' c', v = .slice (some ⟨g', 0, none⟩) (s.length + 1) c' ∧ Own w' B 5 1 (some ⟨g', 0, none⟩) (s.length + 1) c' (bytesV s ++ [.int .u8 (c.toNat : Int)]) ∧ (blkA (some (⟨gB1, 0, none⟩ : Addr)) = some g' ∨ wr.heap.size ≤ g')])
        [[(3, none)], [(6, none)], [(30, some 1)], [(7, none)], [(31, some 2), (32, some 3)], [(33, some 4)], [(29, some 0), (34, some 5)]] (by kernel_rfl) (by kernel_rfl) rfl (by omega) (fun x h => Ch.of_ext _ h) (fun x y h k => h.thenExt k) (fun x y h k => (Ch.of_ext _ h).trans k) ?_ ?_ ?_ ?_
      · intro fl i hi
        obtain rfl | rfl | rfl | rfl | rfl | rfl | rfl : i = 0 ∨ i = 1 ∨ i = 2 ∨ i = 3 ∨ i = 4 ∨ i = 5 ∨ i = 6 := by omega
        · exact fun _ _ _ h _ => h
        · exact fun _ _ _ h _ => h
        · exact fun _ _ _ h _ => h
        · exact fun _ _ _ h _ => h
        · exact fun _ _ _ h _ => h
        · exact fun v x y h k hf => by obtain ⟨g, e1, e2⟩ := h hf; exact ⟨g, e1, e2.ext k⟩
        · exact fun v x y h k => by obtain ⟨hf, g', c', e1, o1, s1⟩ := h; exact ⟨hf, g', c', e1, o1.ext k, s1⟩
      · intro i hi hiM
        obtain rfl | rfl | rfl | rfl | rfl | rfl | rfl : i = 0 ∨ i = 1 ∨ i = 2 ∨ i = 3 ∨ i = 4 ∨ i = 5 ∨ i = 6 := by omega
        · exact fun _ _ _ _ h _ => h
        · exact fun _ _ _ _ h _ => h
        · exact fun _ _ _ _ h _ => h
        · exact fun _ _ _ _ h _ => h
        · exact fun _ _ _ _ h _ => h
        · exact fun v x y _ _ _ hf => by cases hf
        · exact absurd rfl hiM
      · refine ⟨?_, ?_, ?_, ?_, ?_, ?_, ?_, trivial⟩
        · rw [if_neg (by decide)]
          rintro fl ρ w1 hw hcst hfn hk
          have c0 := hw.cell (b := bb) (o := 0) (v := .slice (some ⟨gB1, 0, none⟩) s.length cB1) (by first | (simp [*]; done) | (simp [*, go_sem]; done) | go_cell) (by first | exact HN1.out | exact HN2.out)
          clear hw
          simp only [known, List.getD_cons_zero, List.getD_cons_succ, Nat.reduceAdd] at hk
          simp only [List.getD_cons_zero, List.getD_cons_succ, Nat.reduceAdd, flowAt]
          go_simp
          exact ⟨Ext.refl _, by first | rfl | trivial⟩
        · rw [if_neg (by decide)]
          rintro fl ρ w1 hw hcst hfn hk
          clear hw
          simp only [known, List.getD_cons_zero, List.getD_cons_succ, Nat.reduceAdd] at hk
          simp only [List.getD_cons_zero, List.getD_cons_succ, Nat.reduceAdd, flowAt]
          go_simp
          exact ⟨Ext.refl _, by first | rfl | trivial⟩
        · rw [if_neg (by decide)]
          rintro fl ρ w1 hw hcst hfn hk
          have c0 := hw.cell (b := w.heap.size) (o := 1) (v := .string lt) (by first | (simp [*]; done) | (simp [*, go_sem]; done) | go_cell) (by first | exact HN1.out | exact HN2.out)
          clear hw
          simp only [known, List.getD_cons_zero, List.getD_cons_succ, Nat.reduceAdd] at hk
          simp only [List.getD_cons_zero, List.getD_cons_succ, Nat.reduceAdd, flowAt]
          go_simp
          exact ⟨Ext.refl _, by first | rfl | trivial⟩
        · rw [if_neg (by decide)]
          rintro fl ρ w1 hw hcst hfn hk
          clear hw
          simp only [known, List.getD_cons_zero, List.getD_cons_succ, Nat.reduceAdd] at hk
          simp only [List.getD_cons_zero, List.getD_cons_succ, Nat.reduceAdd, flowAt]
          go_simp
          exact ⟨Ext.refl _, by first | rfl | trivial⟩
        · rw [if_neg (by decide)]
          rintro fl ρ w1 hw hcst hfn hk
          simp only [known, List.getD_cons_zero, List.getD_cons_succ, Nat.reduceAdd] at hk
          simp only [List.getD_cons_zero, List.getD_cons_succ, Nat.reduceAdd, flowAt]
          go_simp
          exact ⟨Ext.refl _, by rw [HCI.out]⟩
        · rw [if_neg (by decide)]
          rintro fl ρ w1 hw hcst hfn hk
          simp only [known, List.getD_cons_zero, List.getD_cons_succ, Nat.reduceAdd] at hk
          simp only [List.getD_cons_zero, List.getD_cons_succ, Nat.reduceAdd, flowAt]
          go_simp
          exact ⟨(Ext.refl _).alloc _, fun _ => ⟨w1.heap.size, rfl, rd_of_new rfl [.int .u8 (c.toNat : Int)] _⟩⟩
        · rw [if_pos (by decide)]
          rintro ρ w1 hw hcst hfn hk
          simp only [known, List.getD_cons_zero, List.getD_cons_succ, Nat.reduceAdd] at hk
          simp only [List.getD_cons_zero, List.getD_cons_succ, Nat.reduceAdd]
          (obtain ⟨g, e1, e2⟩ := hk.2.1 (by trivial); exact invAt_appendO (.tmp 29) (.tmp 34) 22 rfl El_u8 hk.1 e1 [.int .u8 (c.toNat : Int)] e2 rfl (by omega) (by simp [Value.oneCell']) (HW.out.ob.ext ((Ext.refl _).drew.trans hw)) (.inr ⟨gB1, rfl⟩) (by have := hw.size; have h0 : wr.drew.heap.size = wr.heap.size := rfl; omega) (by unfold maxLen; omega) (by omega) (fun g' c' w' ho hc hs => ⟨hc, by trivial, g', c', rfl, ho, hs.imp id (fun q => Nat.le_trans hw.size q)⟩))
      intro vs w1 hw hf
      simp only [flowFacts, Nat.reduceAdd] at hf
      obtain ⟨e0, e1, e2, e3, e4, e5, e6, -⟩ := hf
      simp only [List.take_succ_cons, List.take_zero, List.drop_succ_cons, List.drop_zero, putAll, Act.put, Nat.reduceAdd, List.setIfInBounds_toArray, List.set_cons_zero, List.set_cons_succ, e0, e1, e2, e3, e4, e5]
      clear e0 e1 e2 e3 e4 e5
      obtain ⟨-, g8, c8, hg8, ho8, hs8⟩ := e6
      rw [hg8]
      have hc8 : Ch (fun b => blkA (some (⟨gB1, 0, none⟩ : Addr)) = some b) wr w1 := (Ch.of_ext _ (Ext.refl wr).drew).trans hw
      obtain ⟨hp1, hp2⟩ := HW.out.pushB (Ext.refl _) ho8 hc8 hs8
      have hbb := HW.out.bx.ch hc8 HN1.out
      have b0 := hbb.cell (i := 0) rfl
      have bf := hbb.free 0
      obtain ⟨W2, hW2⟩ : ∃ W, w1.setCell ⟨bb, 0, none⟩ (.slice (some ⟨g8, 0, none⟩) (s.length + 1) c8) = W := ⟨_, rfl⟩
      rw [hW2] at hp1 hp2
      have hst2 := HST.out.trans hp2
      have hvv : W2.cell? ⟨vb, 0, none⟩ = some (wordsV db lb bb vb) := hst2.1.cell CVB.out (HW0.out.av vb HVB.out)
      have hdd : W2.cell? ⟨db, 0, none⟩ = some (.slice (some ⟨bN, oN, none⟩) LD.length cD) := hst2.1.cell CDB.out (HW0.out.av db HDB.out)
      have HBX2 : Hid (Bx W2 w.heap.size 92 [.bool false, .string lt, .slice (some ⟨bx, ox, none⟩) nx0.length pc]) := hid (HB.out.ch hp2.1 (HW.out.av w.heap.size (.inr rfl)))
      have HCALL : Hid (Calls Tryz.prog 55 #[.int .i64 (O.idxOf y : Nat), .pointer (some ⟨db, 0, none⟩), .pointer (some ⟨lb, 0, none⟩), .pointer (some ⟨bb, 0, none⟩), .pointer (some ⟨vb, 0, none⟩)] W2 fun e w' => e = .returned (.tuple #[]) ∧ ∃ gL' cL' gB' cB', WsI w' B lb bb (fun b => A b ∨ b = w.heap.size) gL' cL' gB' cB' (l ++ (partN N x (i + 1)).map (wrd s)) (s ++ [c]) ∧ Wst lb bb W2 w' gL1 g8 gL' gB') := hid (by
        have h := HIH.out y (l ++ (partN N x i).map (wrd s)) (s ++ [c]) (fun b => A b ∨ b = w.heap.size) gL1 cL1 g8 c8 W2 (by omega) HHY.out hp1 (.inl HDB.out) (.inl HVB.out) hdd hvv (by simp; omega) (by simp; omega) (fun w' h => HR.out w' ((hst2.1.below hBw (fun b e => (HW0.out.kw b e).2)).trans h))
        have e9 : l ++ (partN N x (i + 1)).map (wrd s) = (l ++ (partN N x i).map (wrd s)) ++ (langN N y).map (wrd (s ++ [c])) := by
          rw [HPS.out, List.map_append, List.map_map, List.append_assoc]
          congr 2
          exact List.map_congr_left fun t _ => wrd_cons s c t
        rw [e9]
        exact h)
      have HSB := hid hp2
      have HAV2 := hid (hp1.av w.heap.size (.inr rfl))
      clear hp1 hp2 hst2 hbb hc8 hs8 ho8 hg8 hw r0 r1 r2 r3 rf hdd
      go_wp2_with fail
      with_reducible refine HCALL.out.mono ?_
      rintro e w5 ⟨rfl, gL3, cL3, gB3, cB3, hw5, hs5⟩
      have hpop := hw5.popB
      have hcb5 := hw5.ob.le
      rw [List.length_append, List.length_singleton] at hcb5
      have HP5 := hid hpop.1
      have HS5 := hid (HST.out.trans (HSB.out.trans (hs5.trans hpop.2)))
      have HBX5 := hid ((HBX2.out.ch hs5.1 HAV2.out).ch hpop.2.1 (hw5.av w.heap.size (.inr rfl)))
      have q0 := hw5.bx.cell (i := 0) rfl
      have qf := hw5.bx.free 0
      rw [List.length_append, List.length_singleton] at q0
      clear hpop hw5 hs5 HBX2 HCALL HSB HW HST HB HW0 HIH HR
      go_wp2_with fail
      go_roundw
      case rel => exact ⟨i + 1, _, _, _, _, by go_num, by omega, HP5, HS5, HBX5⟩
      case measure => simp [intOf]; omega
    · obtain rfl : i = nx0.length := by omega
      have hw9 := HW.out
      rw [HFIN.out] at hw9
      have hav := HW0.out.av
      clear HW HB
      go_wp2_with fail
      go_returns
      exact ⟨rfl, gL1, cL1, gB1, cB1, hw9.also (fun b hb => ⟨hw9.al b (.inl hb), hw9.av b (.inl hb)⟩), HST.out⟩
set_option maxRecDepth 100000 in
set_option maxHeartbeats 8000000 in
theorem walk_fin (B db lb bb vb : Nat) (aD : Option Addr) (cD : Nat) (LD : List NdP) (N : List Nd) (O : List Nat) (f : Nat) (ih : WalkC B db lb bb vb aD cD LD N O f) (hN : Dn N) (hO : ∀ z ∈ O, z < N.length) (hc : ∀ z ∈ O, ∀ j ∈ nxs N z, j ∈ O) (hnd : O.Nodup) (hM : ndsOf LD = numM N O) (hl : N.length ≤ 200000) (hnl : ∀ z, z < N.length → (ndG N z).nx.length ≤ 100000)
    (x : Nat) (l : List ByteArray) (s : List UInt8) (A : Nat → Prop) (gL cL gB cB : Nat) (w : World) (hxf : x ≤ f) (hx : x ∈ O) (hW : WsI w B lb bb A gL cL gB cB l s) (hdb : A db) (hvb : A vb) (cdb : w.cell? ⟨db, 0, none⟩ = some (.slice aD LD.length cD)) (cvb : w.cell? ⟨vb, 0, none⟩ = some (wordsV db lb bb vb)) (hsx : s.length + x ≤ 200000) (hlx : l.length + (langN N x).length ≤ 200000) (hR : ∀ w', Below B w w' → DgRd w' aD LD) (lt : ByteArray) (nx0 : List Int) (hgN : ndG N x = ⟨true, lt, nx0⟩) :
    Calls Tryz.prog 55 #[.int .i64 (O.idxOf x : Nat), .pointer (some ⟨db, 0, none⟩), .pointer (some ⟨lb, 0, none⟩), .pointer (some ⟨bb, 0, none⟩), .pointer (some ⟨vb, 0, none⟩)] w fun e w' => e = .returned (.tuple #[]) ∧ ∃ gL' cL' gB' cB', WsI w' B lb bb A gL' cL' gB' cB' (l ++ (langN N x).map (wrd s)) s ∧ Wst lb bb w w' gL gB gL' gB' := by
  have hxN := hO x hx
  have hOl : O.length ≤ N.length := nodup_len hnd hO
  have hLD : LD.length = O.length := by rw [← ndsOf_length LD, hM, numM_len]
  have hkO := List.idxOf_lt_length_of_mem hx
  obtain ⟨p0, hp0⟩ : ∃ p, ndAt LD (O.idxOf x) = p := ⟨_, rfl⟩
  obtain ⟨nd0, pa, pc⟩ := p0
  have hnd0 : nd0 = ⟨true, lt, nx0.map fun j => (O.idxOf j.toNat : Int)⟩ := by
    have h1 := ndG_nd LD (O.idxOf x)
    rw [hp0, hM, numM_at hx] at h1
    unfold numN at h1
    rw [hgN] at h1
    exact h1.symm
  subst hnd0
  obtain ⟨k, hk⟩ : ∃ k, O.idxOf x = k := ⟨_, rfl⟩
  rw [hk] at hp0 hkO ⊢
  have HPM : Hid (⟨⟨true, lt, nx0.map fun j => (O.idxOf j.toNat : Int)⟩, pa, pc⟩ ∈ LD) := hid (by rw [← hp0]; exact ndAt_mem LD _ (by omega))
  obtain ⟨bN, oN, rfl, hcl⟩ := (hR w (Below.refl _ _)).1.nds (by omega)
  obtain ⟨q, hq⟩ : ∃ q, oN + k * 3 = q := ⟨_, rfl⟩
  obtain ⟨y0, y1, y2⟩ := hcl k (by omega)
  rw [hp0, hq] at y0 y1 y2
  simp only [List.length_map] at y0 y1 y2
  have hnxl : nx0.length ≤ 100000 := by have := hnl x hxN; rw [hgN] at this; exact this
  have hlsz : lt.size = nx0.length := by have := (hN x hxN).1; rw [hgN] at this; exact this
  have hBw : B ≤ w.heap.size := by have := hW.lo.1; have := hW.lx.lt; omega
  have hxn : Ext w (w.alloc (.cells #[.bool true, .string lt, .slice pa nx0.length pc] 92)) := (Ext.refl _).alloc _
  have HW1 : Hid (WsI (w.alloc (.cells #[.bool true, .string lt, .slice pa nx0.length pc] 92)) B lb bb (fun b => A b ∨ b = w.heap.size) gL cL gB cB l s) := hid ((hW.ext hxn).also (fun b hb => by
    rcases hb with h | rfl
    · exact ⟨Nat.lt_of_lt_of_le (hW.al b h) hxn.size, hW.av b h⟩
    · exact ⟨by simp, fun e => by have := (hW.kw _ e).1; omega⟩))
  have HB1 : Hid (Bx (w.alloc (.cells #[.bool true, .string lt, .slice pa nx0.length pc] 92)) w.heap.size 92 [.bool true, .string lt, .slice pa nx0.length pc]) := hid (Bx.new _ _ _)
  have z0 := HW1.out.lx.cell (i := 0) rfl
  have z1 := HW1.out.bx.cell (i := 0) rfl
  have HW0 := hid hW
  have HIH := hid ih
  have HR := hid hR
  have HNN := hid hN
  have HGN := hid hgN
  have HCL := hid hc
  have hed : (edg N x).length = nx0.length := by rw [edg_len hN hxN, hgN]
  have HED := hid hed
  have HK := hid hk
  have HDB := hid hdb
  have HVB := hid hvb
  have CDB := hid cdb
  have CVB := hid cvb
  have HPL := hid (fun i h => partN_pre (i := i) hN hxN h)
  have hfin : (partN N x nx0.length).map (wrd s) = (langN N x).map (wrd s) := by rw [← hed, partN_all hN hxN]
  have HFIN := hid hfin
  clear hcl hp0 hM hc ih hR hN hgN hed hk hW hdb hvb hfin hnl hnd
  go_enter Tryz.func55, Tryz.ntmps55
  go_wp2_with (first
    | (refine wpList_str rfl _ 22 9 rfl Tryz.underlying22 Tryz.underlying5 Tryz.underlying9 rfl (l := s) rfl HW1.out.ob.rd ?_)
    | (at_builtin; refine wpList_appendO rfl _ _ 24 rfl El_str rfl rfl [.string ⟨s.toArray⟩] (rd_of_new (by simp) _ _) rfl (by omega) (by simp [Value.oneCell']) (HW1.out.ol.ext ((Ext.refl _).alloc _)) (.inr ⟨gL, rfl⟩) (by simp; omega) (by unfold maxLen; omega) (by omega) ?_; intro g8 c8 w8 ho8 hc8 hs8; have HO8 := hid ho8; have HC8 := hid hc8; have HS8 := hid hs8; have HL8 := hid ((HW1.out.lx.ext ((Ext.refl _).alloc (.cells #[.string ⟨s.toArray⟩] 9))).ch hc8 (fun e => by have := HW1.out.ne.2.1; simp [blkA] at e; omega)); have HB8 := hid (((HB1.out.ext ((Ext.refl _).alloc (.cells #[.string ⟨s.toArray⟩] 9))).ch hc8 (fun e => HW1.out.av w.heap.size (.inr rfl) (.inr (.inr (.inl (by simpa [blkA] using e.symm)))))).ch (Ch.set w8 lb 0 (.slice (some ⟨g8, 0, none⟩) (l.length + 1) c8)) (fun e => HW1.out.av w.heap.size (.inr rfl) (.inl e))); have rz := HB8.out.cell (i := 2) rfl; have HP8 := hid (HW1.out.pushL (t := ⟨s.toArray⟩) ((Ext.refl _).alloc (.cells #[.string ⟨s.toArray⟩] 9)) ho8 hc8 hs8); have r0 := HL8.out.cell (i := 0) rfl; have rf := HL8.out.free 0; have hs8z := hc8.size; clear ho8 hc8 hs8))
  have HW2 : Hid (WsI (w8.setCell ⟨lb, 0, none⟩ (.slice (some ⟨g8, 0, none⟩) (l.length + 1) c8)) B lb bb (fun b => A b ∨ b = w.heap.size) g8 c8 gB cB (l ++ (partN N x 0).map (wrd s)) s) := hid (by
    rw [partN_zero, HGN.out]
    have e9 : wrd s [] = ⟨s.toArray⟩ := by simp [wrd]
    simp only [if_true, List.map_cons, List.map_nil, e9]
    exact HP8.out.1)
  have HS2 : Hid (Wst lb bb w (w8.setCell ⟨lb, 0, none⟩ (.slice (some ⟨g8, 0, none⟩) (l.length + 1) c8)) gL gB g8 gB) := hid ((Wst.of_ext hxn).trans HP8.out.2)
  have HB2 := HB8
  go_loopw [24] (fun v24 wr => ∃ (i gL1 cL1 gB1 cB1 : Nat), v24 = .int .i64 (i : Int) ∧ i ≤ nx0.length ∧ Hid (WsI wr B lb bb (fun b => A b ∨ b = w.heap.size) gL1 cL1 gB1 cB1 (l ++ (partN N x i).map (wrd s)) s) ∧ Hid (Wst lb bb w wr gL gB gL1 gB1) ∧
    Hid (Bx wr w.heap.size 92 [.bool true, .string lt, .slice pa nx0.length pc])) (fun v24 _ => nx0.length - (intOf v24).toNat)
  case atStart => exact ⟨0, _, _, _, _, rfl, by omega, HW2, HS2, HB2⟩
  case round =>
    clear HW2 HS2 HB2
    obtain ⟨i, gL1, cL1, gB1, cB1, rfl, hi, HW, HST, HB⟩ := hrel
    by_cases hil : i < nx0.length
    · have hkw0 := HW0.out.kw
      have HBE : Hid (Below B w wr) := hid (HST.out.1.below hBw (fun b e => (hkw0 b e).2))
      obtain ⟨bx, ox, rfl, hcx⟩ := ((HR.out wr HBE.out).2 _ HPM.out).int (show 0 < (nx0.map fun j => (O.idxOf j.toNat : Int)).length by rw [List.length_map]; omega)
      have hcj := hcx i (by rw [List.length_map]; exact hil)
      rw [List.getElem_map] at hcj
      clear hcx hkw0
      obtain ⟨y, hy⟩ : ∃ y, (nx0[i]).toNat = y := ⟨_, rfl⟩
      rw [hy] at hcj
      have hyn : y ∈ nxs N x := by unfold nxs; rw [HGN.out, ← hy]; exact List.mem_map_of_mem (List.getElem_mem hil)
      have hyx : y < x := HNN.out.nxs hxN y hyn
      have hyO := HCL.out x hx y hyn
      obtain ⟨c, hcc⟩ : ∃ c, lt.data.toList[i]'(by rw [toL_len', hlsz]; exact hil) = c := ⟨_, rfl⟩
      have he1 : (edg N x)[i]'(by rw [HED.out]; exact hil) = (c, y) := by
        have h := edg_at HNN.out hxN (i := i) (by rw [HGN.out]; exact hil)
        rw [h]
        simp only [HGN.out]
        rw [hcc, hy]
      have hps := partN_succ (N := N) (k := x) (i := i) (by rw [HED.out]; exact hil)
      rw [he1] at hps
      simp only at hps
      have hpl := HPL.out (i + 1) (by rw [HED.out]; omega)
      have hpl2 := hpl
      rw [hps, List.length_append, List.length_map] at hpl2
      have hcb : lt.data[i]? = some c := by
        rw [← hcc, Array.getElem_toList]
        exact Array.getElem?_eq_getElem _
      have HCI : Hid (∀ h, lt[i]'h = c) := hid (fun h => by rw [← hcc, Array.getElem_toList]; rfl)
      have HCB := hid hcb
      have HPS := hid hps
      have HHY := hid hyO
      have r0 := HB.out.cell (i := 1) rfl
      have r1 := HW.out.bx.cell (i := 0) rfl
      have r2 := HW.out.lx.cell (i := 0) rfl
      have r3 := HB.out.cell (i := 2) rfl
      have rf := HW.out.bx.free 0
      clear hy hyn hyO hcc he1 hps hcb hpl
      go_wp2_with fail
      have HN1 : Hid (¬ blkA (some (⟨gB1, 0, none⟩ : Addr)) = some bb) := hid (fun e => HW.out.ne.2.2.2.2.1 (by simpa [blkA] using e))
      have HN2 : Hid (¬ blkA (some (⟨gB1, 0, none⟩ : Addr)) = some w.heap.size) := hid (fun e => HW.out.av w.heap.size (.inr rfl) (.inr (.inr (.inr (by simpa [blkA] using e.symm)))))
      have hwr := HW.out.kw
      have hBr : B ≤ wr.heap.size := by have := HBE.out.size; omega
      refine wp_region_flagM_at 7 6 (Ch (fun b => blkA (some (⟨gB1, 0, none⟩ : Addr)) = some b)) (Ch (fun b => blkA (some (⟨gB1, 0, none⟩ : Addr)) = some b)) (fun fl => [fun v _ => v = .slice (some ⟨gB1, 0, none⟩) s.length cB1, fun v _ => v = .pointer (some ⟨w.heap.size, 1, none⟩), fun v _ => v = .string lt, fun v _ => v = .int .i64 (i : Int), fun v _ => v = .int .u8 (c.toNat : Int), fun v w' => fl = false → ∃ g, v = .slice (some ⟨g, 0, none⟩) 1 1 ∧ Rd w' (some ⟨g, 0, none⟩) [.int .u8 (c.toNat : Int)], fun v w' => fl = true ∧ ∃ g' c', v = .slice (some ⟨g', 0, none⟩) (s.length + 1) c' ∧ Own w' B 5 1 (some ⟨g', 0, none⟩) (s.length + 1) c' (bytesV s ++ [.int .u8 (c.toNat : Int)]) ∧ (blkA (some (⟨gB1, 0, none⟩ : Addr)) = some g' ∨ wr.heap.size ≤ g')])
        [[(3, none)], [(6, none)], [(30, some 1)], [(7, none)], [(31, some 2), (32, some 3)], [(33, some 4)], [(29, some 0), (34, some 5)]] (by kernel_rfl) (by kernel_rfl) rfl (by omega) (fun x h => Ch.of_ext _ h) (fun x y h k => h.thenExt k) (fun x y h k => (Ch.of_ext _ h).trans k) ?_ ?_ ?_ ?_
      · intro fl i hi
        obtain rfl | rfl | rfl | rfl | rfl | rfl | rfl : i = 0 ∨ i = 1 ∨ i = 2 ∨ i = 3 ∨ i = 4 ∨ i = 5 ∨ i = 6 := by omega
        · exact fun _ _ _ h _ => h
        · exact fun _ _ _ h _ => h
        · exact fun _ _ _ h _ => h
        · exact fun _ _ _ h _ => h
        · exact fun _ _ _ h _ => h
        · exact fun v x y h k hf => by obtain ⟨g, e1, e2⟩ := h hf; exact ⟨g, e1, e2.ext k⟩
        · exact fun v x y h k => by obtain ⟨hf, g', c', e1, o1, s1⟩ := h; exact ⟨hf, g', c', e1, o1.ext k, s1⟩
      · intro i hi hiM
        obtain rfl | rfl | rfl | rfl | rfl | rfl | rfl : i = 0 ∨ i = 1 ∨ i = 2 ∨ i = 3 ∨ i = 4 ∨ i = 5 ∨ i = 6 := by omega
        · exact fun _ _ _ _ h _ => h
        · exact fun _ _ _ _ h _ => h
        · exact fun _ _ _ _ h _ => h
        · exact fun _ _ _ _ h _ => h
        · exact fun _ _ _ _ h _ => h
        · exact fun v x y _ _ _ hf => by cases hf
        · exact absurd rfl hiM
      · refine ⟨?_, ?_, ?_, ?_, ?_, ?_, ?_, trivial⟩
        · rw [if_neg (by decide)]
          rintro fl ρ w1 hw hcst hfn hk
          have c0 := hw.cell (b := bb) (o := 0) (v := .slice (some ⟨gB1, 0, none⟩) s.length cB1) (by first | (simp [*]; done) | (simp [*, go_sem]; done) | go_cell) (by first | exact HN1.out | exact HN2.out)
          clear hw
          simp only [known, List.getD_cons_zero, List.getD_cons_succ, Nat.reduceAdd] at hk
          simp only [List.getD_cons_zero, List.getD_cons_succ, Nat.reduceAdd, flowAt]
          go_simp
          exact ⟨Ext.refl _, by first | rfl | trivial⟩
        · rw [if_neg (by decide)]
          rintro fl ρ w1 hw hcst hfn hk
          clear hw
          simp only [known, List.getD_cons_zero, List.getD_cons_succ, Nat.reduceAdd] at hk
          simp only [List.getD_cons_zero, List.getD_cons_succ, Nat.reduceAdd, flowAt]
          go_simp
          exact ⟨Ext.refl _, by first | rfl | trivial⟩
        · rw [if_neg (by decide)]
          rintro fl ρ w1 hw hcst hfn hk
          have c0 := hw.cell (b := w.heap.size) (o := 1) (v := .string lt) (by first | (simp [*]; done) | (simp [*, go_sem]; done) | go_cell) (by first | exact HN1.out | exact HN2.out)
          clear hw
          simp only [known, List.getD_cons_zero, List.getD_cons_succ, Nat.reduceAdd] at hk
          simp only [List.getD_cons_zero, List.getD_cons_succ, Nat.reduceAdd, flowAt]
          go_simp
          exact ⟨Ext.refl _, by first | rfl | trivial⟩
        · rw [if_neg (by decide)]
          rintro fl ρ w1 hw hcst hfn hk
          clear hw
          simp only [known, List.getD_cons_zero, List.getD_cons_succ, Nat.reduceAdd] at hk
          simp only [List.getD_cons_zero, List.getD_cons_succ, Nat.reduceAdd, flowAt]
          go_simp
          exact ⟨Ext.refl _, by first | rfl | trivial⟩
        · rw [if_neg (by decide)]
          rintro fl ρ w1 hw hcst hfn hk
          simp only [known, List.getD_cons_zero, List.getD_cons_succ, Nat.reduceAdd] at hk
          simp only [List.getD_cons_zero, List.getD_cons_succ, Nat.reduceAdd, flowAt]
          go_simp
          exact ⟨Ext.refl _, by rw [HCI.out]⟩
        · rw [if_neg (by decide)]
          rintro fl ρ w1 hw hcst hfn hk
          simp only [known, List.getD_cons_zero, List.getD_cons_succ, Nat.reduceAdd] at hk
          simp only [List.getD_cons_zero, List.getD_cons_succ, Nat.reduceAdd, flowAt]
          go_simp
          exact ⟨(Ext.refl _).alloc _, fun _ => ⟨w1.heap.size, rfl, rd_of_new rfl [.int .u8 (c.toNat : Int)] _⟩⟩
        · rw [if_pos (by decide)]
          rintro ρ w1 hw hcst hfn hk
          simp only [known, List.getD_cons_zero, List.getD_cons_succ, Nat.reduceAdd] at hk
          simp only [List.getD_cons_zero, List.getD_cons_succ, Nat.reduceAdd]
          (obtain ⟨g, e1, e2⟩ := hk.2.1 (by trivial); exact invAt_appendO (.tmp 29) (.tmp 34) 22 rfl El_u8 hk.1 e1 [.int .u8 (c.toNat : Int)] e2 rfl (by omega) (by simp [Value.oneCell']) (HW.out.ob.ext ((Ext.refl _).drew.trans hw)) (.inr ⟨gB1, rfl⟩) (by have := hw.size; have h0 : wr.drew.heap.size = wr.heap.size := rfl; omega) (by unfold maxLen; omega) (by omega) (fun g' c' w' ho hc hs => ⟨hc, by trivial, g', c', rfl, ho, hs.imp id (fun q => Nat.le_trans hw.size q)⟩))
      intro vs w1 hw hf
      simp only [flowFacts, Nat.reduceAdd] at hf
      obtain ⟨e0, e1, e2, e3, e4, e5, e6, -⟩ := hf
      simp only [List.take_succ_cons, List.take_zero, List.drop_succ_cons, List.drop_zero, putAll, Act.put, Nat.reduceAdd, List.setIfInBounds_toArray, List.set_cons_zero, List.set_cons_succ, e0, e1, e2, e3, e4, e5]
      clear e0 e1 e2 e3 e4 e5
      obtain ⟨-, g8, c8, hg8, ho8, hs8⟩ := e6
      rw [hg8]
      have hc8 : Ch (fun b => blkA (some (⟨gB1, 0, none⟩ : Addr)) = some b) wr w1 := (Ch.of_ext _ (Ext.refl wr).drew).trans hw
      obtain ⟨hp1, hp2⟩ := HW.out.pushB (Ext.refl _) ho8 hc8 hs8
      have hbb := HW.out.bx.ch hc8 HN1.out
      have b0 := hbb.cell (i := 0) rfl
      have bf := hbb.free 0
      obtain ⟨W2, hW2⟩ : ∃ W, w1.setCell ⟨bb, 0, none⟩ (.slice (some ⟨g8, 0, none⟩) (s.length + 1) c8) = W := ⟨_, rfl⟩
      rw [hW2] at hp1 hp2
      have hst2 := HST.out.trans hp2
      have hvv : W2.cell? ⟨vb, 0, none⟩ = some (wordsV db lb bb vb) := hst2.1.cell CVB.out (HW0.out.av vb HVB.out)
      have hdd : W2.cell? ⟨db, 0, none⟩ = some (.slice (some ⟨bN, oN, none⟩) LD.length cD) := hst2.1.cell CDB.out (HW0.out.av db HDB.out)
      have HBX2 : Hid (Bx W2 w.heap.size 92 [.bool true, .string lt, .slice (some ⟨bx, ox, none⟩) nx0.length pc]) := hid (HB.out.ch hp2.1 (HW.out.av w.heap.size (.inr rfl)))
      have HCALL : Hid (Calls Tryz.prog 55 #[.int .i64 (O.idxOf y : Nat), .pointer (some ⟨db, 0, none⟩), .pointer (some ⟨lb, 0, none⟩), .pointer (some ⟨bb, 0, none⟩), .pointer (some ⟨vb, 0, none⟩)] W2 fun e w' => e = .returned (.tuple #[]) ∧ ∃ gL' cL' gB' cB', WsI w' B lb bb (fun b => A b ∨ b = w.heap.size) gL' cL' gB' cB' (l ++ (partN N x (i + 1)).map (wrd s)) (s ++ [c]) ∧ Wst lb bb W2 w' gL1 g8 gL' gB') := hid (by
        have h := HIH.out y (l ++ (partN N x i).map (wrd s)) (s ++ [c]) (fun b => A b ∨ b = w.heap.size) gL1 cL1 g8 c8 W2 (by omega) HHY.out hp1 (.inl HDB.out) (.inl HVB.out) hdd hvv (by simp; omega) (by simp; omega) (fun w' h => HR.out w' ((hst2.1.below hBw (fun b e => (HW0.out.kw b e).2)).trans h))
        have e9 : l ++ (partN N x (i + 1)).map (wrd s) = (l ++ (partN N x i).map (wrd s)) ++ (langN N y).map (wrd (s ++ [c])) := by
          rw [HPS.out, List.map_append, List.map_map, List.append_assoc]
          congr 2
          exact List.map_congr_left fun t _ => wrd_cons s c t
        rw [e9]
        exact h)
      have HSB := hid hp2
      have HAV2 := hid (hp1.av w.heap.size (.inr rfl))
      clear hp1 hp2 hst2 hbb hc8 hs8 ho8 hg8 hw r0 r1 r2 r3 rf hdd
      go_wp2_with fail
      with_reducible refine HCALL.out.mono ?_
      rintro e w5 ⟨rfl, gL3, cL3, gB3, cB3, hw5, hs5⟩
      have hpop := hw5.popB
      have hcb5 := hw5.ob.le
      rw [List.length_append, List.length_singleton] at hcb5
      have HP5 := hid hpop.1
      have HS5 := hid (HST.out.trans (HSB.out.trans (hs5.trans hpop.2)))
      have HBX5 := hid ((HBX2.out.ch hs5.1 HAV2.out).ch hpop.2.1 (hw5.av w.heap.size (.inr rfl)))
      have q0 := hw5.bx.cell (i := 0) rfl
      have qf := hw5.bx.free 0
      rw [List.length_append, List.length_singleton] at q0
      clear hpop hw5 hs5 HBX2 HCALL HSB HW HST HB HW0 HIH HR
      go_wp2_with fail
      go_roundw
      case rel => exact ⟨i + 1, _, _, _, _, by go_num, by omega, HP5, HS5, HBX5⟩
      case measure => simp [intOf]; omega
    · obtain rfl : i = nx0.length := by omega
      have hw9 := HW.out
      rw [HFIN.out] at hw9
      have hav := HW0.out.av
      clear HW HB
      go_wp2_with fail
      go_returns
      exact ⟨rfl, gL1, cL1, gB1, cB1, hw9.also (fun b hb => ⟨hw9.al b (.inl hb), hw9.av b (.inl hb)⟩), HST.out⟩
theorem walk_any (B db lb bb vb : Nat) (aD : Option Addr) (cD : Nat) (LD : List NdP) (N : List Nd) (O : List Nat) (hN : Dn N) (hO : ∀ z ∈ O, z < N.length) (hc : ∀ z ∈ O, ∀ j ∈ nxs N z, j ∈ O) (hnd : O.Nodup) (hM : ndsOf LD = numM N O) (hl : N.length ≤ 200000) (hnl : ∀ z, z < N.length → (ndG N z).nx.length ≤ 100000) : ∀ f, WalkC B db lb bb vb aD cD LD N O f
  | 0 => fun x l s A gL cL gB cB w h => by omega
  | f + 1 => fun x l s A gL cL gB cB w hxf hx hW hdb hvb cdb cvb hsx hlx hR => by
    have ih := walk_any B db lb bb vb aD cD LD N O hN hO hc hnd hM hl hnl f
    obtain ⟨g, hg⟩ : ∃ g, ndG N x = g := ⟨_, rfl⟩
    obtain ⟨fin, lt, nx0⟩ := g
    cases fin with
    | false => exact walk_non B db lb bb vb aD cD LD N O f ih hN hO hc hnd hM hl hnl x l s A gL cL gB cB w (by omega) hx hW hdb hvb cdb cvb hsx hlx hR lt nx0 hg
    | true => exact walk_fin B db lb bb vb aD cD LD N O f ih hN hO hc hnd hM hl hnl x l s A gL cL gB cB w (by omega) hx hW hdb hvb cdb cvb hsx hlx hR lt nx0 hg
theorem own_new0 (w : World) (B : Nat) (e : TypeId) (h : B ≤ w.heap.size) : Own (w.alloc (.cells #[] e)) B e 1 (some ⟨w.heap.size, 0, none⟩) 0 0 [] := by
  refine .inr ⟨rfl, .inr ⟨w.heap.size, 0, #[], rfl, h, by show (w.heap.push _)[w.heap.size]? = _; exact Array.getElem?_push_size, Nat.le_refl _, by decide, rfl, rfl⟩⟩
set_option maxRecDepth 100000 in
set_option maxHeartbeats 8000000 in
/-- (impl.Dawg).words: what the root's language holds, in order. -/
theorem words_any (aD : Option Addr) (cD : Nat) (LD : List NdP) (N : List Nd) (O : List Nat) (r : Nat) (hN : Dn N) (hO : ∀ z ∈ O, z < N.length) (hc : ∀ z ∈ O, ∀ j ∈ nxs N z, j ∈ O) (hnd : O.Nodup) (hM : ndsOf LD = numM N O) (hl : N.length ≤ 200000) (hnl : ∀ z, z < N.length → (ndG N z).nx.length ≤ 100000) (hr : r ∈ O) (h0 : O.idxOf r = 0)
    (w : World) (hlx : (langN N r).length ≤ 200000) (hR : DgRd w aD LD) :
    Calls Tryz.prog 34 #[dawgV aD LD.length cD] w fun e w' => ∃ g c, e = .returned (.slice (some ⟨g, 0, none⟩) (langN N r).length c) ∧ Own w' w.heap.size 9 1 (some ⟨g, 0, none⟩) (langN N r).length c (strsV ((langN N r).map fun t => ⟨t.toArray⟩)) ∧ Ext w w' := by
  have hrN := hO r hr
  have HWK : Hid (∀ db lb bb vb, WalkC w.heap.size db lb bb vb aD cD LD N O (r + 1)) := hid (fun db lb bb vb => walk_any w.heap.size db lb bb vb aD cD LD N O hN hO hc hnd hM hl hnl (r + 1))
  have H0 := hid h0
  have HR := hid hR
  have HC := hid hc
  have HM := hid hM
  clear h0 hR hc hM
  go_enter Tryz.func34, Tryz.ntmps34
  go_wp2_with fail
  obtain ⟨W, hW⟩ : ∃ W, ((((((w.alloc (.cells #[.slice aD LD.length cD] 30)).alloc (.cells #[] 9)).alloc (.cells #[] 5)).alloc (.cells #[.slice (some ⟨w.heap.size + 1, 0, none⟩) 0 0] 24)).alloc (.cells #[.slice (some ⟨w.heap.size + 1 + 1, 0, none⟩) 0 0] 22)).alloc (.cells #[wordsV w.heap.size (w.heap.size + 1 + 1 + 1) (w.heap.size + 1 + 1 + 1 + 1) (w.heap.size + 1 + 1 + 1 + 1 + 1)] 101)) = W := ⟨_, rfl⟩
  have HW := hid hW
  rw [hW]
  clear hW
  have hEW : Ext w W := by rw [← HW.out]; exact ((((((Ext.refl w).alloc _).alloc _).alloc _).alloc _).alloc _).alloc _
  have hsW : W.heap.size = w.heap.size + 6 := by rw [← HW.out]; simp
  have hdb : W.cell? ⟨w.heap.size, 0, none⟩ = some (.slice aD LD.length cD) := by rw [← HW.out]; go_cell
  have hvb : W.cell? ⟨w.heap.size + 1 + 1 + 1 + 1 + 1, 0, none⟩ = some (wordsV w.heap.size (w.heap.size + 1 + 1 + 1) (w.heap.size + 1 + 1 + 1 + 1) (w.heap.size + 1 + 1 + 1 + 1 + 1)) := by rw [← HW.out]; go_cell
  have hlb : Bx W (w.heap.size + 1 + 1 + 1) 24 [.slice (some ⟨w.heap.size + 1, 0, none⟩) 0 0] := by
    rw [← HW.out]
    have h3 := Bx.new (((w.alloc (.cells #[.slice aD LD.length cD] 30)).alloc (.cells #[] 9)).alloc (.cells #[] 5)) 24 [.slice (some ⟨w.heap.size + 1, 0, none⟩) 0 0]
    simp only [World.size_alloc] at h3
    exact h3.ext (((Ext.refl _).alloc _).alloc _)
  have hbb : Bx W (w.heap.size + 1 + 1 + 1 + 1) 22 [.slice (some ⟨w.heap.size + 1 + 1, 0, none⟩) 0 0] := by
    rw [← HW.out]
    have h3 := Bx.new ((((w.alloc (.cells #[.slice aD LD.length cD] 30)).alloc (.cells #[] 9)).alloc (.cells #[] 5)).alloc (.cells #[.slice (some ⟨w.heap.size + 1, 0, none⟩) 0 0] 24)) 22 [.slice (some ⟨w.heap.size + 1 + 1, 0, none⟩) 0 0]
    simp only [World.size_alloc] at h3
    exact h3.ext ((Ext.refl _).alloc _)
  have hol : Own W w.heap.size 9 1 (some ⟨w.heap.size + 1, 0, none⟩) 0 0 (strsV []) := by
    have h3 : Own ((w.alloc (.cells #[.slice aD LD.length cD] 30)).alloc (.cells #[] 9)) w.heap.size 9 1 (some ⟨w.heap.size + 1, 0, none⟩) 0 0 (strsV []) := by
      have h4 := own_new0 (w.alloc (.cells #[.slice aD LD.length cD] 30)) w.heap.size 9 (by simp)
      have e0 : strsV [] = [] := rfl
      rw [e0]
      simpa using h4
    rw [← HW.out]
    exact h3.ext ((((Ext.refl _).alloc _).alloc _).alloc _ |>.alloc _)
  have hob : Own W w.heap.size 5 1 (some ⟨w.heap.size + 1 + 1, 0, none⟩) 0 0 (bytesV []) := by
    have h3 : Own (((w.alloc (.cells #[.slice aD LD.length cD] 30)).alloc (.cells #[] 9)).alloc (.cells #[] 5)) w.heap.size 5 1 (some ⟨w.heap.size + 1 + 1, 0, none⟩) 0 0 (bytesV []) := by
      have h4 := own_new0 ((w.alloc (.cells #[.slice aD LD.length cD] 30)).alloc (.cells #[] 9)) w.heap.size 5 (by simp; omega)
      have e0 : bytesV [] = [] := rfl
      rw [e0]
      simpa using h4
    rw [← HW.out]
    exact h3.ext (((Ext.refl _).alloc _).alloc _ |>.alloc _)
  have HW0 : Hid (WsI W w.heap.size (w.heap.size + 1 + 1 + 1) (w.heap.size + 1 + 1 + 1 + 1) (fun b => b = w.heap.size ∨ b = w.heap.size + 1 + 1 + 1 + 1 + 1) (w.heap.size + 1) 0 (w.heap.size + 1 + 1) 0 [] []) := hid
    ⟨hlb, hbb, hol, hob, by omega, by omega, by omega, fun b hb e => by rcases e with e | e | e | e <;> omega, fun b hb => by omega⟩
  have hlr : (langN N r).length ≤ 200000 := hlx
  have hcall := HWK.out w.heap.size (w.heap.size + 1 + 1 + 1) (w.heap.size + 1 + 1 + 1 + 1) (w.heap.size + 1 + 1 + 1 + 1 + 1) r [] [] _ _ 0 _ 0 W (by omega) hr HW0.out (.inl rfl) (.inr rfl) hdb hvb (by simp; omega) (by simpa using hlx) (fun w' h => HR.out.ext (Ext.of (Below.trans hEW.below h)))
  rw [H0.out] at hcall
  clear HW hlb hbb hol hob hdb hvb HR
  refine hcall.mono ?_
  rintro e w1 ⟨rfl, gL, cL, gB, cB, hw1, hs1⟩
  have hE1 : Ext w w1 := ((Ch.of_ext (fun _ => False) hEW).next hs1.1 (fun b hb e => by rcases e with e | e | e | e <;> omega)).ext (by simp)
  have r0 := hw1.lx.cell (i := 0) rfl
  have e9 : (langN N r).map (wrd []) = (langN N r).map fun t => (⟨t.toArray⟩ : ByteArray) := List.map_congr_left fun t _ => by simp [wrd]
  rw [List.nil_append, e9] at hw1
  rw [List.nil_append, List.length_map] at r0
  have ho1 := hw1.ol
  rw [List.length_map] at ho1
  clear hcall hw1 hs1
  go_wp2_with fail
  go_returns
  exact ⟨gL, cL, rfl, ho1, hE1⟩
end Go.Proofs.YtabljchbchjjcaaGreatDoor
