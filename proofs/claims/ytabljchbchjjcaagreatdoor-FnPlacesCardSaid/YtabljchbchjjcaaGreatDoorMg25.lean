/- Several texts in one: Ch06m, Ch09h. Conditions: see each. -/
import Derived.Test.YtabljchbchjjcaaGreatDoorCh06l
import Derived.Test.YtabljchbchjjcaaGreatDoorCh06j
import Derived.Test.YtabljchbchjjcaaGreatDoorMg18
import Derived.Test.YtabljchbchjjcaaGreatDoorCh09g
import Derived.Test.YtabljchbchjjcaaGreatDoorMg19
import Derived.Test.YtabljchbchjjcaaGreatDoorDwF
section
namespace Go.Proofs.YtabljchbchjjcaaGreatDoor
set_option linter.unusedVariables false
set_option linter.unusedSimpArgs false
open Go Go.RowKit
/-- An automaton comes back that can be read. -/
def RetDr (l : List Nd) (w : World) (e : Ending) (w' : World) : Prop := ∃ a c L, ndsOf L = l ∧ e = .returned (dawgV a L.length c) ∧ (∀ (K : Nat → Prop) (w'' : World), Ch K w' w'' → (∀ b, K b → b < w.heap.size) → DgRd w'' a L) ∧ Ext w w'
set_option maxRecDepth 100000 in
set_option maxHeartbeats 8000000 in
theorem l06Build_any (a : Option Addr) (c : Nat) (S : List ByteArray) (w : World) (h : Rd w a (strsV S)) (hl : S.length ≤ 3000) (hW : WsOk 0 101 S) (ht : totL (sufs 0 S) ≤ 90000) :
    Calls Tryz.prog 30 #[.slice a S.length c] w (RetDr (autoS S) w) := by
  go_enter Tryz.func30, Tryz.ntmps30
  go_wp2_with fail
  obtain ⟨W, hW0⟩ : ∃ W, ((w.alloc (.cells #[.slice none 0 0] 30)).alloc (.cells #[.slice none 0 0] 87)) = W := ⟨_, rfl⟩
  have HW := hid hW0
  try rw [hW0]
  clear hW0
  have hEW : Ext w W := by rw [← HW.out]; exact ((Ext.refl w).alloc _).alloc _
  have hsW : W.heap.size = w.heap.size + 2 := by rw [← HW.out]; simp
  have hbx : Bx W (w.heap.size + 1) 87 [.slice none 0 0] := by
    rw [← HW.out]
    have h3 := Bx.new (w.alloc (.cells #[.slice none 0 0] 30)) 87 [.slice none 0 0]
    simp only [World.size_alloc] at h3
    exact h3
  have r0 : W.cell? ⟨w.heap.size, 0, none⟩ = some (.slice none 0 0) := by rw [← HW.out]; go_cell
  have rf : W.frozen? ⟨w.heap.size, 0, none⟩ = false := by rw [← HW.out]; go_cell
  have hal : ∀ b, 0 < S.length ∧ blkA a = some b → b < w.heap.size := fun b e => by
    obtain ⟨p, e1, e2⟩ := blk_of e.2
    obtain ⟨b9, o9, e9, hcl⟩ := h.word e.1
    rw [e1] at e9
    simp only [Option.some.injEq] at e9
    subst e9
    simp only at e2
    subst e2
    exact World.block_lt_of_cell? _ _ (hcl 0 e.1)
  have hmk : MkS W w.heap.size (w.heap.size + 1) (fun b => b = w.heap.size ∨ 0 < S.length ∧ blkA a = some b) none 0 [] :=
    ⟨hbx, Own.empty _ _ _ _ _, .inl ⟨rfl, rfl, rfl, rfl⟩, by omega, ⟨by omega, by omega⟩, fun p e => (by cases e), fun p e => (by cases e), ⟨fun e => by rcases e with e | e; omega; have := hal _ e; omega, fun e => by rcases e with e | e; omega; have := hal _ e; omega⟩, fun p hp => (by simp at hp), fun p hp => (by simp at hp)⟩
  clear HW
  have HC := hid (sbuild_any w.heap.size (w.heap.size + 1) 100 S (fun b => b = w.heap.size ∨ 0 < S.length ∧ blkA a = some b) none 0 [] a c W hmk (fun n hn => by simp [ndsOf] at hn) Dn.nil hW hl (by omega) (by simp; omega) (fun b e => by rcases e with e | e; omega; have := hal _ e; omega) (by omega) (h.ext hEW) (fun h0 p e => .inr ⟨h0, by rw [e]; rfl⟩))
  clear hmk hbx hal
  try go_wp2_with fail
  with_reducible refine HC.out.mono ?_
  rintro e w1 ⟨rfl, aq', c', L', hR, hMk, -, hst⟩
  have hR0 : (ndsOf ([] : List NdP)) = [] := rfl
  rw [hR0] at hR ⊢
  have hf : ∀ x ∈ sufs 0 S, x.length < 101 := fun x hx => by
    obtain ⟨s, hs, rfl⟩ := List.mem_map.1 hx
    have := hW.hi s hs
    have hl := toL_len s
    rw [List.length_drop, hl]
    omega
  obtain ⟨g1, g2, g3⟩ := bld_ok 101 [] (sufs 0 S) hW.rise hf (by omega) Dn.nil
  have g4 := bld_len 101 [] (sufs 0 S) hW.rise
  have g5 := bld_wt 101 [] (sufs 0 S) hW.rise
  have hau : numb (ndsOf L') (bld 101 [] (sufs 0 S)).2 = autoS S := by rw [hR]; rfl
  rw [← hR] at g2 g3 g4 g5
  rw [ndsOf_length] at g3 g4
  obtain ⟨root, hroot⟩ : ∃ r, (bld 101 [] (sufs 0 S)).2 = r := ⟨_, rfl⟩
  rw [hroot] at g3 hau ⊢
  have hkr : ¬ Kq (w.heap.size + 1) (w.heap.size + 1) none w.heap.size := by
    rintro (e | e | e)
    · omega
    · omega
    · simp [blkA] at e
  replace r0 := hst.ch.cell r0 hkr
  have rf' : w1.frozen? ⟨w.heap.size, 0, none⟩ = false := by
    rw [← rf]
    have := hst.ch.block w.heap.size (by omega) hkr
    simp only [World.frozen?, this]
  have hE1 : Ext w w1 := ((Ch.of_ext _ hEW).next hst.ch (J := Kq (w.heap.size + 1) (w.heap.size + 1) none) (K := fun _ => False) (fun b hb e => by
    rcases e with e | e | e
    · omega
    · omega
    · simp [blkA] at e)).ext (by simp)
  have d0 := hMk.bx.cell (i := 0) rfl
  have HNB := hid (fun (w' : World) (k : Ext w1 w') => l06Number_any aq' c' L' root w' ⟨hMk.own.rd.ext k, fun p hp => (hMk.rd p hp).ext k⟩ g3 (by simp at g4; omega) g2 (fun p hp => by
    have h1 := wtN_mem (List.mem_map_of_mem (f := (·.nd)) hp)
    have h2 : wtN (List.map (·.nd) L') = wtN (ndsOf L') := rfl
    have h3 : wtN ([] : List Nd) = 0 := rfl
    omega))
  have hs1 := hE1.size
  have hs2 := hst.ch.size
  have hlt0 := World.block_lt_of_cell? _ _ r0
  have HE1 := hid hE1
  clear hMk hst g1 g2 g3 g4 g5 hroot hR hR0 hf hE1 hW h rf HC
  go_wp2_with fail
  with_reducible refine (HNB.out _ (Ext.refl _)).mono ?_
  rintro e w2 ⟨g, cg, L, hL, rfl, hdg, hx⟩
  rw [hau] at hL
  replace r0 := hx.cell r0
  have rf2 : w2.frozen? ⟨w.heap.size, 0, none⟩ = false := by rw [hx.cells.2 _ _ hlt0]; exact rf'
  have hs3 := hx.size
  have HL := hid hL
  have HDG := hid hdg
  have HE2 := hid (HE1.out.trans hx)
  clear hL hau hdg hx HNB rf'
  go_wp2_with fail
  have x0 := World.cell?_setCell_same _ _ (.slice (some ⟨g, 0, none⟩) L.length cg) r0
  refine bodyPost_ret (v := dawgV (some ⟨g, 0, none⟩) L.length cg) ?_ rfl ⟨some ⟨g, 0, none⟩, cg, L, HL.out, rfl, ?_, HE2.out.setCell (by show w.heap.size ≤ w.heap.size; omega) _⟩
  · simp [results, Tryz.results30, go_sem, x0]
  · intro K w'' k hk
    have hset := Ch.set w2 w.heap.size 0 (.slice (some ⟨g, 0, none⟩) L.length cg)
    exact HDG.out (fun b => b = w.heap.size ∨ K b) w'' ((hset.mono (fun b _ e => .inl e)).next k (fun b _ e => .inr e)) (fun b e => by
      rcases e with e | e
      · omega
      · have := hk b e
        omega)
/-- An automaton and a code come back; the automaton can be read. -/
def RetDrC (r : List Nd × Int) (w : World) (e : Ending) (w' : World) : Prop := ∃ a c L, ndsOf L = r.1 ∧ e = .returned (.tuple #[dawgV a L.length c, .int .i64 r.2]) ∧ DgRd w' a L ∧ Ext w w'
end Go.Proofs.YtabljchbchjjcaaGreatDoor
end
section
namespace Go.Proofs.YtabljchbchjjcaaGreatDoor
set_option linter.unusedVariables false
set_option linter.unusedSimpArgs false
open Go Go.RowKit
set_option maxRecDepth 100000 in
set_option maxHeartbeats 4000000 in
theorem l09Forms_any (a : Option Addr) (c : Nat) (l : List ByteArray) (w : World) (h : Rd w a (strsV l)) (hl : l.length ≤ 200) (hs : ∀ s ∈ l, s.size ≤ 12) :
    Calls Tryz.prog 19 #[.slice a l.length c] w (RetRd (srtF l) w) := by
  have HB : Hid (∀ i k, (allF (l.take i)).length + k ≤ 2400 + k) := hid (fun i k => by
    have := allF_len (b := 12) (l := l.take i) (fun s hh => hs s (List.mem_of_mem_take hh))
    have h2 : (l.take i).length ≤ 200 := by rw [List.length_take]; omega
    omega)
  have HSZ : Hid (∀ i, i < l.length → (wAt l i).size ≤ 12) := hid (fun i hi => hs _ (wAt_mem l i hi))
  have HR := hid (fun (w' : World) (k : Ext w w') => h.ext k)
  have HTK := hid (fun i h => @allF_take l i h)
  have HFS := hid formL_succ
  have HFL := hid formL_length
  have HSD : Hid (srtF l = sortW (allF l)) := hid rfl
  have HTA : Hid (l.take l.length = l) := hid (List.take_length)
  clear h hs
  go_enter Tryz.func19, Tryz.ntmps19
  go_wp2_with fail
  go_loopw [3, 4] (fun v3 v4 wr => ∃ (i : Nat) (out : List ByteArray) (ao : Option Addr) (co : Nat), v3 = .slice ao out.length co ∧ v4 = .int .i64 (i : Int) ∧ i ≤ l.length ∧ Hid (out = allF (l.take i)) ∧ Hid (Own wr w.heap.size 9 1 ao out.length co (strsV out)) ∧ Ext w wr) (fun _ v4 _ => l.length - (intOf v4).toNat)
  case atStart => exact ⟨0, [], some ⟨w.heap.size, 0, none⟩, 0, rfl, rfl, by omega, hid rfl, hid (Own.empty _ _ _ _ _), (Ext.refl _).alloc _⟩
  case round =>
    obtain ⟨i, out, ao, co, rfl, rfl, hi, HOU, HO, hx⟩ := hrel
    by_cases hil : i < l.length
    · obtain ⟨b1, o1, rfl, -⟩ := (HR.out _ hx).word (by omega)
      have HC1 : Hid (∀ w', Ext w w' → w'.cell? ⟨b1, o1 + i, none⟩ = some (.string (wAt l i))) := hid (fun w' k => by
        obtain ⟨b9, o9, e9, hcl⟩ := (HR.out _ k).word (by omega)
        simp only [Option.some.injEq, Addr.mk.injEq, and_true] at e9
        obtain ⟨rfl, rfl⟩ := e9
        exact hcl i hil)
      have hsz := HSZ.out i hil
      have HTI := hid (HTK.out i hil)
      obtain ⟨s, hs⟩ : ∃ s, wAt l i = s := ⟨_, rfl⟩
      rw [hs] at HC1 hsz HTI
      obtain ⟨p, hp⟩ : ∃ p, o1 + i = p := ⟨_, rfl⟩
      rw [hp] at HC1
      clear hs
      go_wp2_with fail
      go_loopw [3, 5] (fun v3 v5 wr => ∃ (k j : Nat) (out : List ByteArray) (ao : Option Addr) (co : Nat), k + 1 = j ∧ k ≤ s.size ∧ v3 = .slice ao out.length co ∧ v5 = .int .i64 (j : Int) ∧ Hid (out = allF (l.take i) ++ formL s k) ∧ Hid (Own wr w.heap.size 9 1 ao out.length co (strsV out)) ∧ Ext w wr) (fun _ v5 _ => s.size + 1 - (intOf v5).toNat)
      case atStart => exact ⟨0, 1, out, ao, co, rfl, by omega, rfl, rfl, hid (by rw [HOU.out]; simp [formL]), HO, hx⟩
      case round =>
        clear HOU HO hx
        obtain ⟨k, j, out, ao, co, hkj, hk, rfl, rfl, HOU, HO, hx⟩ := hrel
        have hxs := hx.size
        have hd1 := HC1.out _ hx
        have hob : out.length ≤ 2500 := by
          have h1 := HB.out i k
          rw [HOU.out, List.length_append, HFL.out]
          omega
        by_cases hlt : j ≤ s.size
        · have HFO := hid (fun w' => l09Form_any s j w' (by omega) hlt)
          have HFK := hid (HFS.out s k)
          rw [hkj] at HFK
          obtain ⟨F, hF⟩ : ∃ F, formS s j = F := ⟨_, rfl⟩
          rw [hF] at HFO HFK
          clear hF
          go_wp2_with fail
          refine (HFO.out _).mono ?_
          rintro e w2 ⟨rfl, hx2⟩
          have HO2 := hid (HO.out.ext hx2)
          have hs2 := hx2.size
          replace hx := hx.trans hx2
          clear hx2 HO hd1
          go_wp2_with (at_builtin; refine wpList_push rfl _ _ 24 rfl El_str rfl [_] rfl rfl (by simp [Value.oneCell']) HO2.out (by omega) (by unfold maxLen; omega) (by omega) ?_; intro a8 c8 w8 hown8 hb8; have HO8 := hid hown8; have HB8 := hid hb8; clear hown8 hb8)
          go_roundw
          case rel => exact ⟨k + 1, j + 1, out ++ [F], a8, c8, by omega, by omega, by rw [List.length_append]; rfl, by go_num, hid (by rw [hkj, HFK.out, HOU.out, List.append_assoc]), hid (by rw [List.length_append, strsV_append]; exact HO8.out), hx.thenBelow HB8.out (by omega)⟩
          case measure => simp [intOf]; omega
        · obtain rfl : k = s.size := by omega
          go_wp2_with fail
          go_roundw
          case rel => exact ⟨i + 1, out, ao, co, rfl, by go_num, by omega, hid (by rw [HOU.out, HTI.out]), HO, hx⟩
          case measure => simp [intOf]; omega
    · obtain rfl : i = l.length := by omega
      have hoe : out = allF l := by rw [HOU.out, HTA.out]
      have hob : out.length ≤ 2400 := by
        have h1 := HB.out l.length 0
        rw [HOU.out]
        omega
      have HS := hid (l09Sort_any out.length out ao co _ rfl (by omega) HO.out.le HO.out.rd)
      rw [hoe] at HS
      rw [← HSD.out] at HS
      subst hoe
      go_wp2_with fail
      refine HS.out.mono ?_
      rintro e w3 ⟨a3, c3, rfl, h3, h4, h5⟩
      have H3 := hid h3
      have H4 := hid h4
      have hE := hx.trans h5
      clear h3 h4 h5
      go_wp2_with fail
      go_returns
      exact ⟨a3, c3, rfl, H3.out, H4.out, hE⟩
/-- An automaton and a code come back; the automaton can be read whatever becomes of older blocks. -/
def RetDrF (r : List Nd × Int) (w : World) (e : Ending) (w' : World) : Prop := ∃ a c L, ndsOf L = r.1 ∧ e = .returned (.tuple #[dawgV a L.length c, .int .i64 r.2]) ∧ (∀ (K : Nat → Prop) (w'' : World), Ch K w' w'' → (∀ b, K b → b < w.heap.size) → DgRd w'' a L) ∧ Ext w w'
set_option maxRecDepth 100000 in
set_option maxHeartbeats 4000000 in
theorem l08Code_any (a : Option Addr) (c : Nat) (S : List ByteArray) (w : World) (h : Rd w a (strsV S)) (hl : S.length ≤ 2400) (hW : WsOk 0 101 S) (ht : totL (sufs 0 S) ≤ 90000) :
    Calls Tryz.prog 18 #[.slice a S.length c] w (RetDrF (dawgR S) w) := by
  have HD : Hid (dawgR S = if 3000 < (autoS S).length then ([], 5) else (autoS S, 0)) := hid (by unfold dawgR; rw [if_neg (by omega)])
  have HL := hid (fun (w' : World) (k : Ext w w') => l06Build_any a c S w' (h.ext k) (by omega) hW ht)
  clear h hW ht
  go_enter Tryz.func18, Tryz.ntmps18
  go_wp2_with fail
  refine (HL.out _ ((Ext.refl w).alloc _)).mono ?_
  rintro e w2 ⟨a2, c2, L, hL, rfl, hd, hx⟩
  have r0 := hx.cell (b := w.heap.size) (o := 0) (v := .slice none 0 0) (by go_cell)
  have rf : w2.frozen? ⟨w.heap.size, 0, none⟩ = false := by rw [hx.cells.2 _ _ (by simp)]; go_cell
  have hE : Ext w w2 := ((Ext.refl w).alloc _).trans hx
  have hsz := hx.size
  simp only [World.size_alloc] at hd hsz
  have hlt0 := World.block_lt_of_cell? _ _ r0
  have hlen : L.length = (autoS S).length := by rw [← hL, ndsOf_length]
  rw [← hlen] at HD
  have HLL := hid hL
  have HDD := hid hd
  clear hx hL hlen hd
  by_cases hb : 3000 < L.length
  · have hb2 : (3000 : Int) < (L.length : Int) := by omega
    rw [if_pos hb] at HD
    go_wp2_with fail
    have x0 := ((Ext.refl (w2.setCell ⟨w.heap.size, 0, none⟩ (.slice none 0 0))).alloc (.cells #[.slice a2 L.length c2] 30)).cell (World.cell?_setCell_same _ _ (.slice none 0 0) r0)
    rw [HD.out]
    refine bodyPost_ret (v := .tuple #[dawgV none 0 0, .int .i64 5]) ?_ rfl ⟨none, 0, [], rfl, rfl, fun K w'' k hk => ⟨Rd.nil _ _, fun p hp => by simp at hp⟩, (hE.setCell (by show w.heap.size ≤ w.heap.size; omega) _).alloc _⟩
    simp [results, Tryz.results18, go_sem, x0]
  · have hb2 : ¬ (3000 : Int) < (L.length : Int) := by omega
    rw [if_neg hb] at HD
    go_wp2_with fail
    have x0 := ((Ext.refl (w2.setCell ⟨w.heap.size, 0, none⟩ (.slice a2 L.length c2))).alloc (.cells #[.slice a2 L.length c2] 30)).cell (World.cell?_setCell_same _ _ (.slice a2 L.length c2) r0)
    rw [HD.out]
    refine bodyPost_ret (v := .tuple #[dawgV a2 L.length c2, .int .i64 0]) ?_ rfl ⟨a2, c2, L, HLL.out, rfl, fun K w'' k hk => ?_, (hE.setCell (by show w.heap.size ≤ w.heap.size; omega) _).alloc _⟩
    · simp [results, Tryz.results18, go_sem, x0]
    · have hc1 : Ch (fun b => b = w.heap.size ∨ K b) w2 ((w2.setCell ⟨w.heap.size, 0, none⟩ (.slice a2 L.length c2)).alloc (.cells #[.slice a2 L.length c2] 30)) := ((Ch.set w2 w.heap.size 0 (.slice a2 L.length c2)).mono (fun b _ e => .inl e)).thenExt ((Ext.refl _).alloc _)
      exact HDD.out (fun b => b = w.heap.size ∨ K b) w'' (hc1.next k (fun b _ e => .inr e)) (fun b e => by
        rcases e with e | e
        · omega
        · have := hk b e
          omega)
set_option maxRecDepth 100000 in
set_option maxHeartbeats 4000000 in
theorem sBuildBoth_any (a : Option Addr) (c : Nat) (l : List ByteArray) (w : World) (h : Rd w a (strsV l)) (hl : l.length ≤ 1048576) (hs : ∀ s ∈ l, s.size ≤ 1048576) :
    Calls Tryz.prog 6 #[lexV a l.length c] w (RetDrC (bothR l) w) := by
  have hx0 : Ext w ((w.alloc (.cells #[.slice a l.length c] 26)).alloc (.cells #[.slice none 0 0] 30)) := ((Ext.refl w).alloc _).alloc _
  have HV := hid (l05Ok_any w.heap.size 0 l ((w.alloc (.cells #[.slice a l.length c] 26)).alloc (.cells #[.slice none 0 0] 30)) ⟨a, c, by go_cell, h.ext hx0⟩ hl hs)
  cases hv : lexOk l
  · have HD : Hid (bothR l = ([], 1)) := hid (by unfold bothR; rw [hv]; rfl)
    rw [hv] at HV
    clear h hs
    go_enter Tryz.func6, Tryz.ntmps6
    go_wp2_with fail
    refine HV.out.mono ?_
    rintro e w1 ⟨rfl, hd⟩
    have hx := hd.ext
    have r0 := hx.cell (b := w.heap.size + 1) (o := 0) (v := .slice none 0 0) (by go_cell)
    have rf : w1.frozen? ⟨w.heap.size + 1, 0, none⟩ = false := by rw [hx.cells.2 _ _ (by simp)]; go_cell
    have HE := hid (hx0.trans hx)
    have hlt0 := World.block_lt_of_cell? _ _ r0
    clear hx hx0 HV hd
    go_wp2_with fail
    have x0 := World.cell?_setCell_same _ _ (.slice none 0 0) r0
    rw [HD.out]
    refine bodyPost_ret (v := .tuple #[dawgV none 0 0, .int .i64 1]) ?_ rfl ⟨none, 0, [], rfl, rfl, ⟨Rd.nil _ _, fun p hp => by simp at hp⟩, HE.out.setCell (by show w.heap.size ≤ w.heap.size + 1; omega) _⟩
    simp [results, Tryz.results6, go_sem, x0]
  · obtain ⟨p1, p2, p3⟩ := lexOk_parts hv
    obtain ⟨g1, g2, g3⟩ := srtF_ok hv
    have HD : Hid (bothR l = dawgR (srtF l)) := hid (by unfold bothR; rw [hv, if_pos rfl])
    rw [hv] at HV
    have HB := hid (fun (w' : World) (k : Ext w w') => l09Forms_any a c l w' (h.ext k) p1 (fun s hh => (longOk_parts (p3 s hh)).2.1))
    have HC := hid (fun (a : Option Addr) (c : Nat) (w' : World) (k : Rd w' a (strsV (srtF l))) => l08Code_any a c (srtF l) w' k g2 g1 (by omega))
    obtain ⟨S, hS⟩ : ∃ S, srtF l = S := ⟨_, rfl⟩
    rw [hS] at HB HC HD
    clear h hs g1 g2 g3 p1 p2 p3 hS
    go_enter Tryz.func6, Tryz.ntmps6
    go_wp2_with fail
    refine HV.out.mono ?_
    rintro e w1 ⟨rfl, hd⟩
    have hx := hd.ext
    have r0 := hx.cell (b := w.heap.size + 1) (o := 0) (v := .slice none 0 0) (by go_cell)
    have q0 := hx.cell (b := w.heap.size) (o := 0) (v := .slice a l.length c) (by go_cell)
    have rf : w1.frozen? ⟨w.heap.size + 1, 0, none⟩ = false := by rw [hx.cells.2 _ _ (by simp)]; go_cell
    have HE := hid (hx0.trans hx)
    have hlt0 := World.block_lt_of_cell? _ _ r0
    clear hx hx0 HV hd
    go_wp2_with fail
    refine (HB.out _ HE.out).mono ?_
    rintro e w2 ⟨a2, c2, rfl, hc2, hr2, hx⟩
    replace r0 := hx.cell r0
    have rf2 : w2.frozen? ⟨w.heap.size + 1, 0, none⟩ = false := by rw [hx.cells.2 _ _ hlt0]; exact rf
    have hlt2 := World.block_lt_of_cell? _ _ r0
    have HE2 := hid (HE.out.trans hx)
    have HR2 := hid hr2
    clear rf q0 HE hx HB hr2
    go_wp2_with fail
    refine (HC.out a2 c2 _ HR2.out).mono ?_
    rintro e w3 ⟨a3, c3, L, hL, rfl, hd, hx⟩
    replace r0 := hx.cell r0
    have rf3 : w3.frozen? ⟨w.heap.size + 1, 0, none⟩ = false := by rw [hx.cells.2 _ _ hlt2]; exact rf2
    have HE3 := hid (HE2.out.trans hx)
    have HDD := hid hd
    have HL := hid hL
    obtain ⟨r, hr⟩ : ∃ r, (dawgR S).2 = r := ⟨_, rfl⟩
    have HRR := hid hr
    rw [hr]
    clear rf2 HE2 hx HC hd hL hr
    go_wp2_with fail
    have x0 := World.cell?_setCell_same _ _ (.slice a3 L.length c3) r0
    rw [HD.out]
    refine bodyPost_ret (v := .tuple #[dawgV a3 L.length c3, .int .i64 r]) ?_ rfl ⟨a3, c3, L, HL.out, by rw [HRR.out], HDD.out (fun b => b = w.heap.size + 1) _ (Ch.set w3 (w.heap.size + 1) 0 _) (fun b e => by omega), HE3.out.setCell (by show w.heap.size ≤ w.heap.size + 1; omega) _⟩
    simp [results, Tryz.results6, go_sem, x0]
end Go.Proofs.YtabljchbchjjcaaGreatDoor
end
