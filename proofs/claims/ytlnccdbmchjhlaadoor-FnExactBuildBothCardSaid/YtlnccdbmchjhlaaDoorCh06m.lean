/- The automaton of words in order, by the reference; its BuildDawg. Conditions: words of ASCII without '+', fewer than 101 bytes each, at most 90000 bytes. -/
import Derived.Test.YtlnccdbmchjhlaaDoorCh06l
import Derived.Test.YtlnccdbmchjhlaaDoorCh06j
import Derived.Test.YtlnccdbmchjhlaaDoorCh06h
namespace Go.Proofs.YtlnccdbmchjhlaaDoor
set_option linter.unusedVariables false
set_option linter.unusedSimpArgs false
open Go Go.RowKit
/-- An automaton comes back that can be read. -/
def RetDr (l : List Nd) (w : World) (e : Ending) (w' : World) : Prop := ∃ a c L, ndsOf L = l ∧ e = .returned (dawgV a L.length c) ∧ (∀ (K : Nat → Prop) (w'' : World), Ch K w' w'' → (∀ b, K b → b < w.heap.size) → DgRd w'' a L) ∧ Ext w w'
set_option maxRecDepth 100000 in
set_option maxHeartbeats 8000000 in
theorem l06Build_any (a : Option Addr) (c : Nat) (S : List ByteArray) (w : World) (h : Rd w a (strsV S)) (hl : S.length ≤ 3000) (hW : WsOk 0 101 S) (ht : totL (sufs 0 S) ≤ 90000) :
    Calls Tryd.prog 29 #[.slice a S.length c] w (RetDr (autoS S) w) := by
  go_enter Tryd.func29, Tryd.ntmps29
  go_wp2_with fail
  obtain ⟨W, hW0⟩ : ∃ W, ((w.alloc (.cells #[.slice none 0 0] 28)).alloc (.cells #[.slice none 0 0] 70)) = W := ⟨_, rfl⟩
  have HW := hid hW0
  try rw [hW0]
  clear hW0
  have hEW : Ext w W := by rw [← HW.out]; exact ((Ext.refl w).alloc _).alloc _
  have hsW : W.heap.size = w.heap.size + 2 := by rw [← HW.out]; simp
  have hbx : Bx W (w.heap.size + 1) 70 [.slice none 0 0] := by
    rw [← HW.out]
    have h3 := Bx.new (w.alloc (.cells #[.slice none 0 0] 28)) 70 [.slice none 0 0]
    simp only [World.size_alloc] at h3
    exact h3
  have r0 : W.cell? ⟨w.heap.size, 0, none⟩ = some (.slice none 0 0) := by rw [← HW.out]; go_cell
  have rf : W.frozen? ⟨w.heap.size, 0, none⟩ = false := by rw [← HW.out]; go_cell
  have hal : ∀ b, 0 < S.length ∧ blkA a = some b → b < w.heap.size := fun b e => by
    obtain ⟨p, e1, e2⟩ := blk_of e.2
    obtain ⟨b9, o9, e9, hcl⟩ := h.word e.1
    rw [e1] at e9
    simp only [Option.some.injEq] at e9
    subst e9
    simp only at e2
    subst e2
    exact World.block_lt_of_cell? _ _ (hcl 0 e.1)
  have hmk : MkS W w.heap.size (w.heap.size + 1) (fun b => b = w.heap.size ∨ 0 < S.length ∧ blkA a = some b) none 0 [] :=
    ⟨hbx, Own.empty _ _ _ _ _, .inl ⟨rfl, rfl, rfl, rfl⟩, by omega, ⟨by omega, by omega⟩, fun p e => (by cases e), fun p e => (by cases e), ⟨fun e => by rcases e with e | e; omega; have := hal _ e; omega, fun e => by rcases e with e | e; omega; have := hal _ e; omega⟩, fun p hp => (by simp at hp), fun p hp => (by simp at hp)⟩
  clear HW
  have HC := hid (sbuild_any w.heap.size (w.heap.size + 1) 100 S (fun b => b = w.heap.size ∨ 0 < S.length ∧ blkA a = some b) none 0 [] a c W hmk (fun n hn => by simp [ndsOf] at hn) Dn.nil hW hl (by omega) (by simp; omega) (fun b e => by rcases e with e | e; omega; have := hal _ e; omega) (by omega) (h.ext hEW) (fun h0 p e => .inr ⟨h0, by rw [e]; rfl⟩))
  clear hmk hbx hal
  try go_wp2_with fail
  with_reducible refine HC.out.mono ?_
  rintro e w1 ⟨rfl, aq', c', L', hR, hMk, -, hst⟩
  have hR0 : (ndsOf ([] : List NdP)) = [] := rfl
  rw [hR0] at hR ⊢
  have hf : ∀ x ∈ sufs 0 S, x.length < 101 := fun x hx => by
    obtain ⟨s, hs, rfl⟩ := List.mem_map.1 hx
    have := hW.hi s hs
    have hl := toL_len s
    rw [List.length_drop, hl]
    omega
  obtain ⟨g1, g2, g3⟩ := bld_ok 101 [] (sufs 0 S) hW.rise hf (by omega) Dn.nil
  have g4 := bld_len 101 [] (sufs 0 S) hW.rise
  have g5 := bld_wt 101 [] (sufs 0 S) hW.rise
  have hau : numb (ndsOf L') (bld 101 [] (sufs 0 S)).2 = autoS S := by rw [hR]; rfl
  rw [← hR] at g2 g3 g4 g5
  rw [ndsOf_length] at g3 g4
  obtain ⟨root, hroot⟩ : ∃ r, (bld 101 [] (sufs 0 S)).2 = r := ⟨_, rfl⟩
  rw [hroot] at g3 hau ⊢
  have hkr : ¬ Kq (w.heap.size + 1) (w.heap.size + 1) none w.heap.size := by
    rintro (e | e | e)
    · omega
    · omega
    · simp [blkA] at e
  replace r0 := hst.ch.cell r0 hkr
  have rf' : w1.frozen? ⟨w.heap.size, 0, none⟩ = false := by
    rw [← rf]
    have := hst.ch.block w.heap.size (by omega) hkr
    simp only [World.frozen?, this]
  have hE1 : Ext w w1 := ((Ch.of_ext _ hEW).next hst.ch (J := Kq (w.heap.size + 1) (w.heap.size + 1) none) (K := fun _ => False) (fun b hb e => by
    rcases e with e | e | e
    · omega
    · omega
    · simp [blkA] at e)).ext (by simp)
  have d0 := hMk.bx.cell (i := 0) rfl
  have HNB := hid (fun (w' : World) (k : Ext w1 w') => l06Number_any aq' c' L' root w' ⟨hMk.own.rd.ext k, fun p hp => (hMk.rd p hp).ext k⟩ g3 (by simp at g4; omega) g2 (fun p hp => by
    have h1 := wtN_mem (List.mem_map_of_mem (f := (·.nd)) hp)
    have h2 : wtN (List.map (·.nd) L') = wtN (ndsOf L') := rfl
    have h3 : wtN ([] : List Nd) = 0 := rfl
    omega))
  have hs1 := hE1.size
  have hs2 := hst.ch.size
  have hlt0 := World.block_lt_of_cell? _ _ r0
  have HE1 := hid hE1
  clear hMk hst g1 g2 g3 g4 g5 hroot hR hR0 hf hE1 hW h rf HC
  go_wp2_with fail
  with_reducible refine (HNB.out _ (Ext.refl _)).mono ?_
  rintro e w2 ⟨g, cg, L, hL, rfl, hdg, hx⟩
  rw [hau] at hL
  replace r0 := hx.cell r0
  have rf2 : w2.frozen? ⟨w.heap.size, 0, none⟩ = false := by rw [hx.cells.2 _ _ hlt0]; exact rf'
  have hs3 := hx.size
  have HL := hid hL
  have HDG := hid hdg
  have HE2 := hid (HE1.out.trans hx)
  clear hL hau hdg hx HNB rf'
  go_wp2_with fail
  have x0 := World.cell?_setCell_same _ _ (.slice (some ⟨g, 0, none⟩) L.length cg) r0
  refine bodyPost_ret (v := dawgV (some ⟨g, 0, none⟩) L.length cg) ?_ rfl ⟨some ⟨g, 0, none⟩, cg, L, HL.out, rfl, ?_, HE2.out.setCell (by show w.heap.size ≤ w.heap.size; omega) _⟩
  · simp [results, Tryd.results29, go_sem, x0]
  · intro K w'' k hk
    have hset := Ch.set w2 w.heap.size 0 (.slice (some ⟨g, 0, none⟩) L.length cg)
    exact HDG.out (fun b => b = w.heap.size ∨ K b) w'' ((hset.mono (fun b _ e => .inl e)).next k (fun b _ e => .inr e)) (fun b e => by
      rcases e with e | e
      · omega
      · have := hk b e
        omega)
/-- An automaton and a code come back; the automaton can be read. -/
def RetDrC (r : List Nd × Int) (w : World) (e : Ending) (w' : World) : Prop := ∃ a c L, ndsOf L = r.1 ∧ e = .returned (.tuple #[dawgV a L.length c, .int .i64 r.2]) ∧ DgRd w' a L ∧ Ext w w'
set_option maxRecDepth 100000 in
set_option maxHeartbeats 4000000 in
theorem sBuildDawg_any (a : Option Addr) (c : Nat) (l : List ByteArray) (w : World) (h : Rd w a (strsV l)) (hl : l.length ≤ 1048576) (hs : ∀ s ∈ l, s.size ≤ 1048576) :
    Calls Tryd.prog 14 #[lexV a l.length c] w (RetDrC (buildR l) w) := by
  have hx0 : Ext w ((w.alloc (.cells #[.slice a l.length c] 31)).alloc (.cells #[.slice none 0 0] 28)) := ((Ext.refl w).alloc _).alloc _
  have HV := hid (l05Ok_any w.heap.size 0 l ((w.alloc (.cells #[.slice a l.length c] 31)).alloc (.cells #[.slice none 0 0] 28)) ⟨a, c, by go_cell, h.ext hx0⟩ hl hs)
  cases hv : lexOk l
  · have HD : Hid (buildR l = ([], 1)) := hid (by unfold buildR; rw [hv]; rfl)
    rw [hv] at HV
    clear h hs
    go_enter Tryd.func14, Tryd.ntmps14
    go_wp2_with fail
    refine HV.out.mono ?_
    rintro e w1 ⟨rfl, hd⟩
    have hx := hd.ext
    have r0 := hx.cell (b := w.heap.size + 1) (o := 0) (v := .slice none 0 0) (by go_cell)
    have rf : w1.frozen? ⟨w.heap.size + 1, 0, none⟩ = false := by rw [hx.cells.2 _ _ (by simp)]; go_cell
    have HE := hid (hx0.trans hx)
    have hlt0 := World.block_lt_of_cell? _ _ r0
    clear hx hx0 HV hd
    go_wp2_with fail
    have x0 := World.cell?_setCell_same _ _ (.slice none 0 0) r0
    rw [HD.out]
    refine bodyPost_ret (v := .tuple #[dawgV none 0 0, .int .i64 1]) ?_ rfl ⟨none, 0, [], rfl, rfl, ⟨Rd.nil _ _, fun p hp => by simp at hp⟩, HE.out.setCell (by show w.heap.size ≤ w.heap.size + 1; omega) _⟩
    simp [results, Tryd.results14, go_sem, x0]
  · obtain ⟨g1, g2, g3⟩ := wsOk_lex hv
    have HD : Hid (buildR l = (autoS l, 0)) := hid (by unfold buildR; rw [hv, if_pos rfl])
    rw [hv] at HV
    have HB := hid (fun w' (k : Ext w w') => l06Build_any a c l w' (h.ext k) (by omega) g1 (by omega))
    clear h hs g1 g2 g3
    go_enter Tryd.func14, Tryd.ntmps14
    go_wp2_with fail
    refine HV.out.mono ?_
    rintro e w1 ⟨rfl, hd⟩
    have hx := hd.ext
    have r0 := hx.cell (b := w.heap.size + 1) (o := 0) (v := .slice none 0 0) (by go_cell)
    have q0 := hx.cell (b := w.heap.size) (o := 0) (v := .slice a l.length c) (by go_cell)
    have rf : w1.frozen? ⟨w.heap.size + 1, 0, none⟩ = false := by rw [hx.cells.2 _ _ (by simp)]; go_cell
    have HE := hid (hx0.trans hx)
    have hlt0 := World.block_lt_of_cell? _ _ r0
    clear hx hx0 HV hd
    go_wp2_with fail
    refine (HB.out _ HE.out).mono ?_
    rintro e w2 ⟨a2, c2, L, hL, rfl, hd, hx⟩
    replace r0 := hx.cell r0
    have rf2 : w2.frozen? ⟨w.heap.size + 1, 0, none⟩ = false := by rw [hx.cells.2 _ _ hlt0]; exact rf
    have HE2 := hid (HE.out.trans hx)
    have HDD := hid hd
    have HL := hid hL
    clear rf q0 HE hx HB hd hL
    go_wp2_with fail
    have x0 := World.cell?_setCell_same _ _ (.slice a2 L.length c2) r0
    rw [HD.out]
    refine bodyPost_ret (v := .tuple #[dawgV a2 L.length c2, .int .i64 0]) ?_ rfl ⟨a2, c2, L, HL.out, by rfl, HDD.out (fun b => b = w.heap.size + 1) _ (Ch.set w2 (w.heap.size + 1) 0 _) (fun b e => by omega), HE2.out.setCell (by show w.heap.size ≤ w.heap.size + 1; omega) _⟩
    simp [results, Tryd.results14, go_sem, x0]
end Go.Proofs.YtlnccdbmchjhlaaDoor
