/- The automaton of words in order, by the program; BuildDawg. Conditions: words of ASCII without '+', fewer than 101 bytes each, at most 90000 bytes. -/
import Derived.Test.YtlnccdbmchjhlaaDoorCh06g
import Derived.Test.YtlnccdbmchjhlaaDoorDwW
namespace Go.Proofs.YtlnccdbmchjhlaaDoor
set_option linter.unusedVariables false
set_option linter.unusedSimpArgs false
open Go Go.RowKit
/-- An automaton and a code come back; the automaton is the call's own. -/
def RetDC (r : List Nd × Int) (w : World) (e : Ending) (w' : World) : Prop := ∃ a c L, ndsOf L = r.1 ∧ e = .returned (.tuple #[dawgV a L.length c, .int .i64 r.2]) ∧ (L = [] ∧ a = none ∧ c = 0 ∨ ∃ g, a = some ⟨g, 0, none⟩ ∧ DgW w.heap.size w'.heap.size w' g L) ∧ Ext w w'
theorem DgW.chOff {lo hi g : Nat} {w w' : World} {L : List NdP} {K : Nat → Prop} (h : DgW lo hi w g L) (k : Ch K w w') (hk : ∀ b, lo ≤ b → b < hi → ¬ K b) : DgW lo hi w' g L := by
  refine ⟨?_, h.ge, h.lt, fun p hp => ?_, h.off, h.ap⟩
  · have hg := hk g h.ge h.lt
    obtain ⟨r1, r2, r3⟩ := h.row
    refine ⟨Nat.lt_of_lt_of_le r1 k.size, fun j u hj => k.cell (r2 j u hj) hg, fun j hj => ?_⟩
    rw [← r3 j hj]
    have := k.block g r1 hg
    simp only [World.frozen?, this]
  · have hp2 := h.nx p hp
    refine k.inR hp2 (fun hn q e => ?_)
    rcases hp2 with h1 | ⟨g2, h1, h2, h3, -⟩
    · rw [h1] at hn; simp at hn
    · rw [h1] at e
      simp only [Option.some.injEq] at e
      subst e
      exact hk g2 h2 h3
theorem DgW.wide {lo hi lo' hi' g : Nat} {w : World} {L : List NdP} (h : DgW lo hi w g L) (h1 : lo' ≤ lo) (h2 : hi ≤ hi') : DgW lo' hi' w g L :=
  ⟨h.row, Nat.le_trans h1 h.ge, Nat.lt_of_lt_of_le h.lt h2, fun p hp => ((h.nx p hp).up h2).down h1, h.off, h.ap⟩
/-- What is made of words in order: nodes, and a code. -/
def dawgR (S : List ByteArray) : List Nd × Int := if 3000 < S.length then ([], 5) else if 3000 < (autoS S).length then ([], 5) else (autoS S, 0)
set_option maxRecDepth 100000 in
set_option maxHeartbeats 8000000 in
theorem dawgOf_any (a : Option Addr) (c : Nat) (S : List ByteArray) (w : World) (h : Rd w a (strsV S)) (hc : S.length ≤ c) (hl : S.length ≤ maxLen) (hW : WsOk 0 101 S) (ht : totL (sufs 0 S) ≤ 90000) (hT : TabF w) :
    Calls Tryd.prog 22 #[.slice a S.length c] w (RetDC (dawgR S) w) := by
  have hmm := @run_makeMap Tryd.prog
  unfold maxLen at hl
  by_cases h3 : 3000 < S.length
  · have HD : Hid (dawgR S = ([], 5)) := hid (by unfold dawgR; rw [if_pos h3])
    go_enter Tryd.func22, Tryd.ntmps22
    go_wp2_with fail
    go_returns
    rw [HD.out]
    exact ⟨none, 0, [], rfl, rfl, .inl ⟨rfl, rfl, rfl⟩, (Ext.refl w).alloc _⟩
  · have HD : Hid (dawgR S = if 3000 < (autoS S).length then ([], 5) else (autoS S, 0)) := hid (by unfold dawgR; rw [if_neg h3])
    go_enter Tryd.func22, Tryd.ntmps22
    go_wp2_with fail
    obtain ⟨W, hW0⟩ : ∃ W, (((w.alloc (.cells #[.slice none 0 0] 28)).alloc (.map #[] 0)).alloc (.cells #[.slice none 0 0, .map (some (w.heap.size + 1))] 55)) = W := ⟨_, rfl⟩
    have HW := hid hW0
    rw [hW0]
    clear hW0 hmm
    have hEW : Ext w W := by rw [← HW.out]; exact (((Ext.refl w).alloc _).alloc _).alloc _
    have hsW : W.heap.size = w.heap.size + 3 := by rw [← HW.out]; simp
    have hbx : Bx W (w.heap.size + 1 + 1) 55 [.slice none 0 0, .map (some (w.heap.size + 1))] := by
      rw [← HW.out]
      have h3 := Bx.new ((w.alloc (.cells #[.slice none 0 0] 28)).alloc (.map #[] 0)) 55 [.slice none 0 0, .map (some (w.heap.size + 1))]
      simp only [World.size_alloc] at h3
      exact h3
    have hmp : MapOk (w.heap.size + 1) W [] := by
      have h2 := World.ownsMap_made (w.alloc (.cells #[.slice none 0 0] 28)) Tryd.prog 9 (plainElem (H := Unit) Tryd.prog 2)
      simp only [World.size_alloc] at h2
      have h3 : MapOk (w.heap.size + 1) ((w.alloc (.cells #[.slice none 0 0] 28)).alloc (.map #[] 0)) [] := ⟨0, _, Nat.le_refl _, h2, KMap.nil⟩
      rw [← HW.out]
      exact h3.ext ((Ext.refl _).alloc _)
    have r0 : W.cell? ⟨w.heap.size, 0, none⟩ = some (.slice none 0 0) := by rw [← HW.out]; go_cell
    have rf : W.frozen? ⟨w.heap.size, 0, none⟩ = false := by rw [← HW.out]; go_cell
    have hmk : MkP W w.heap.size (w.heap.size + 1 + 1) (w.heap.size + 1) (fun b => b = w.heap.size) none 0 [] :=
      ⟨hbx, Own.empty _ _ _ _ _, .inl ⟨rfl, rfl, rfl, rfl⟩, by omega, ⟨by omega, by omega⟩, fun p e => (by cases e), fun p e => (by cases e), ⟨by omega, by omega⟩, fun p hp => (by simp at hp), fun p hp => (by simp at hp)⟩
    clear HW
    refine (build_any w.heap.size (w.heap.size + 1 + 1) (w.heap.size + 1) (by omega) 100 0 S (fun b => b = w.heap.size) none 0 [] a c W hmk hmp Dn.nil hW (by omega) (by omega) (by simp; omega) hc (fun b e => by omega) (by omega) (fun w' hb => h.ext (Ext.of (Below.trans hEW.below hb))) (fun w' hb => hT.ext (Ext.of (Below.trans hEW.below hb)))).mono ?_
    rintro e w1 ⟨rfl, aq', c', L', hR, hMk, -, hst⟩
    have hR0 : (ndsOf ([] : List NdP)) = [] := rfl
    rw [hR0] at hR ⊢
    have hf : ∀ x ∈ sufs 0 S, x.length < 101 := fun x hx => by
      obtain ⟨s, hs, rfl⟩ := List.mem_map.1 hx
      have := hW.hi s hs
      have hl := toL_len s
      rw [List.length_drop, hl]
      omega
    obtain ⟨g1, g2, g3⟩ := bld_ok 101 [] (sufs 0 S) hW.rise hf (by omega) Dn.nil
    have g4 := bld_len 101 [] (sufs 0 S) hW.rise
    have g5 := bld_wt 101 [] (sufs 0 S) hW.rise
    have hau : numb (ndsOf L') (bld 101 [] (sufs 0 S)).2 = autoS S := by rw [hR]; rfl
    rw [← hR] at g2 g3 g4 g5
    rw [ndsOf_length] at g3 g4
    obtain ⟨root, hroot⟩ : ∃ r, (bld 101 [] (sufs 0 S)).2 = r := ⟨_, rfl⟩
    rw [hroot] at g3 hau ⊢
    have hkr : ¬ Kq (w.heap.size + 1 + 1) (w.heap.size + 1) none w.heap.size := by
      rintro (e | e | e)
      · omega
      · omega
      · simp [blkA] at e
    replace r0 := hst.ch.cell r0 hkr
    have rf' : w1.frozen? ⟨w.heap.size, 0, none⟩ = false := by
      rw [← rf]
      have := hst.ch.block w.heap.size (by omega) hkr
      simp only [World.frozen?, this]
    have hE1 : Ext w w1 := ((Ch.of_ext _ hEW).next hst.ch (J := Kq (w.heap.size + 1 + 1) (w.heap.size + 1) none) (K := fun _ => False) (fun b hb e => by
      rcases e with e | e | e
      · omega
      · omega
      · simp [blkA] at e)).ext (by simp)
    have HNB := hid (numbered_any (w.heap.size + 1 + 1) aq' c' L' root w1 ⟨hMk.bx.cell (i := 0) rfl, hMk.own.rd, hMk.rd⟩ g3 (by simp at g4; omega) g2 (fun p hp => by
      have h1 := wtN_mem (List.mem_map_of_mem (f := (·.nd)) hp)
      have h2 : wtN (List.map (·.nd) L') = wtN (ndsOf L') := rfl
      have h3 : wtN ([] : List Nd) = 0 := rfl
      omega))
    have hs1 := hE1.size
    have hs2 := hst.ch.size
    have HE1 := hid hE1
    clear hmk hmp hbx hMk hst g1 g2 g3 g4 g5 hroot hR hR0 hf hE1 hW h hT rf
    go_wp2_with fail
    refine HNB.out.mono ?_
    rintro e w2 ⟨g, cg, L, hL, hpos, rfl, hdw, hx⟩
    rw [hau] at hL
    have hlen : L.length = (autoS S).length := by rw [← hL, ndsOf_length]
    rw [← hlen] at HD
    replace r0 := hx.cell r0
    have rf2 : w2.frozen? ⟨w.heap.size, 0, none⟩ = false := by rw [hx.cells.2 _ _ (by omega)]; exact rf'
    have hs3 := hx.size
    have hlt0 := World.block_lt_of_cell? _ _ r0
    have HL := hid hL
    have HDW := hid hdw
    have HE2 := hid (HE1.out.trans hx)
    clear hL hlen hau hdw hx HNB rf'
    by_cases hb : 3000 < L.length
    · have hb2 : (3000 : Int) < (L.length : Int) := by omega
      rw [if_pos hb] at HD
      go_wp2_with fail
      have x0 := ((Ext.refl (w2.setCell ⟨w.heap.size, 0, none⟩ (.slice none 0 0))).alloc (.cells #[.slice (some ⟨g, 0, none⟩) L.length cg] 28)).cell (World.cell?_setCell_same _ _ (.slice none 0 0) r0)
      rw [HD.out]
      refine bodyPost_ret (v := .tuple #[dawgV none 0 0, .int .i64 5]) ?_ rfl ⟨none, 0, [], rfl, rfl, .inl ⟨rfl, rfl, rfl⟩, (HE2.out.setCell (by show w.heap.size ≤ w.heap.size; omega) _).alloc _⟩
      simp [results, Tryd.results22, go_sem, x0]
    · have hb2 : ¬ (3000 : Int) < (L.length : Int) := by omega
      rw [if_neg hb] at HD
      go_wp2_with fail
      have x0 := ((Ext.refl (w2.setCell ⟨w.heap.size, 0, none⟩ (.slice (some ⟨g, 0, none⟩) L.length cg))).alloc (.cells #[.slice (some ⟨g, 0, none⟩) L.length cg] 28)).cell (World.cell?_setCell_same _ _ (.slice (some ⟨g, 0, none⟩) L.length cg) r0)
      rw [HD.out]
      refine bodyPost_ret (v := .tuple #[dawgV (some ⟨g, 0, none⟩) L.length cg, .int .i64 0]) ?_ rfl ⟨some ⟨g, 0, none⟩, cg, L, HL.out, rfl, .inr ⟨g, rfl, (((HDW.out.chOff (Ch.set w2 w.heap.size 0 _) (fun b h1 h2 e => by omega)).ext ((Ext.refl _).alloc _))).wide (by omega) (by simp [World.setCell])⟩, (HE2.out.setCell (by show w.heap.size ≤ w.heap.size; omega) _).alloc _⟩
      simp [results, Tryd.results22, go_sem, x0]
/-- What BuildDawg answers. -/
def buildR (l : List ByteArray) : List Nd × Int := if lexOk l then (autoS l, 0) else ([], 1)
set_option maxRecDepth 100000 in
set_option maxHeartbeats 4000000 in
theorem BuildDawg_any (a : Option Addr) (c : Nat) (l : List ByteArray) (w : World) (h : Rd w a (strsV l)) (hc : l.length ≤ c) (hl : l.length ≤ 1048576) (hs : ∀ s ∈ l, s.size ≤ 1048576) (hT : TabF w) :
    Calls Tryd.prog 15 #[lexV a l.length c] w (RetDC (buildR l) w) := by
  have HV := hid (fun w' (k : Ext w w') => ValidLexicon_any a c l w' (h.ext k) hl hs)
  have hx0 : Ext w ((w.alloc (.cells #[.slice a l.length c] 31)).alloc (.cells #[.slice none 0 0] 28)) := ((Ext.refl w).alloc _).alloc _
  cases hv : lexOk l
  · have HD : Hid (buildR l = ([], 1)) := hid (by unfold buildR; rw [hv]; rfl)
    rw [hv] at HV
    clear h hs hT
    go_enter Tryd.func15, Tryd.ntmps15
    go_wp2_with fail
    refine (HV.out _ hx0).mono ?_
    rintro e w1 ⟨rfl, hx⟩
    have r0 := hx.cell (b := w.heap.size + 1) (o := 0) (v := .slice none 0 0) (by go_cell)
    have rf : w1.frozen? ⟨w.heap.size + 1, 0, none⟩ = false := by rw [hx.cells.2 _ _ (by simp)]; go_cell
    have HE := hid (hx0.trans hx)
    have hlt0 := World.block_lt_of_cell? _ _ r0
    clear hx hx0 HV
    go_wp2_with fail
    have x0 := World.cell?_setCell_same _ _ (.slice none 0 0) r0
    rw [HD.out]
    refine bodyPost_ret (v := .tuple #[dawgV none 0 0, .int .i64 1]) ?_ rfl ⟨none, 0, [], rfl, rfl, .inl ⟨rfl, rfl, rfl⟩, HE.out.setCell (by show w.heap.size ≤ w.heap.size + 1; omega) _⟩
    simp [results, Tryd.results15, go_sem, x0]
  · obtain ⟨g1, g2, g3⟩ := wsOk_lex hv
    have h4 := (autoS_ok g1).1
    have HD : Hid (buildR l = dawgR l) := hid (by unfold buildR dawgR; rw [hv, if_pos rfl, if_neg (by omega), if_neg (by omega)])
    rw [hv] at HV
    have HB := hid (fun w' (k : Ext w w') => dawgOf_any a c l w' (h.ext k) hc (by unfold maxLen; omega) g1 (by omega) (hT.ext k))
    clear h hs hT g1 g2 g3 h4
    go_enter Tryd.func15, Tryd.ntmps15
    go_wp2_with fail
    refine (HV.out _ hx0).mono ?_
    rintro e w1 ⟨rfl, hx⟩
    have r0 := hx.cell (b := w.heap.size + 1) (o := 0) (v := .slice none 0 0) (by go_cell)
    have q0 := hx.cell (b := w.heap.size) (o := 0) (v := .slice a l.length c) (by go_cell)
    have rf : w1.frozen? ⟨w.heap.size + 1, 0, none⟩ = false := by rw [hx.cells.2 _ _ (by simp)]; go_cell
    have HE := hid (hx0.trans hx)
    have hlt0 := World.block_lt_of_cell? _ _ r0
    clear hx hx0 HV
    go_wp2_with fail
    refine (HB.out _ HE.out).mono ?_
    rintro e w2 ⟨a2, c2, L, hL, rfl, hd, hx⟩
    replace r0 := hx.cell r0
    have rf2 : w2.frozen? ⟨w.heap.size + 1, 0, none⟩ = false := by rw [hx.cells.2 _ _ hlt0]; exact rf
    have HE2 := hid (HE.out.trans hx)
    have hs2 := hx.size
    obtain ⟨r, hr⟩ : ∃ r, (dawgR l).2 = r := ⟨_, rfl⟩
    have HDR := hid hr
    rw [hr]
    have HDD := hid hd
    have HL := hid hL
    clear rf q0 HE hx HB hd hL hr
    go_wp2_with fail
    have x0 := World.cell?_setCell_same _ _ (.slice a2 L.length c2) r0
    rw [HD.out]
    refine bodyPost_ret (v := .tuple #[dawgV a2 L.length c2, .int .i64 r]) ?_ rfl ⟨a2, c2, L, HL.out, by rw [HDR.out], ?_, HE2.out.setCell (by show w.heap.size ≤ w.heap.size + 1; omega) _⟩
    · simp [results, Tryd.results15, go_sem, x0]
    · rcases HDD.out with h | ⟨g, e, h⟩
      · exact .inl h
      · exact .inr ⟨g, e, ((h.chOff (Ch.set w2 (w.heap.size + 1) 0 _) (fun b h1 h2 e => by omega))).wide (by omega) (by simp [World.setCell])⟩
end Go.Proofs.YtlnccdbmchjhlaaDoor
