/- Numbering by the reference. Conditions: at most 200000 nodes, each of at most 100000 edges. -/
import Derived.Test.YtabljchbchjjcaaGreatDoorCh06k
import Derived.Test.YtabljchbchjjcaaGreatDoorDwO
namespace Go.Proofs.YtabljchbchjjcaaGreatDoor
set_option linter.unusedVariables false
set_option linter.unusedSimpArgs false
open Go Go.RowKit
theorem blk_of {a : Option Addr} {b : Nat} (h : blkA a = some b) : ∃ p, a = some p ∧ p.block = b := by
  cases a with
  | none => simp [blkA] at h
  | some p => exact ⟨p, rfl, by simpa [blkA] using h⟩
theorem ndAt_set (L : List NdP) (i j : Nat) (p : NdP) (hi : i < L.length) : ndAt (L.set i p) j = if i = j then p else ndAt L j := by
  unfold ndAt
  rw [List.getD_eq_getElem?_getD, List.getD_eq_getElem?_getD, List.getElem?_set]
  split
  · rfl
  · rfl
/-- Nodes whose lists grow. -/
structure Nk (w : World) (B g : Nat) (X : Nat → Prop) (L : List NdP) : Prop where
  row : Wr w g (ndsV L)
  nx : ∀ j, j < L.length → Own w B 2 1 (ndAt L j).a (ndAt L j).nd.nx.length (ndAt L j).c (intsV (ndAt L j).nd.nx)
  zero : ∀ j, j < L.length → (ndAt L j).nd.nx.length = 0 → (ndAt L j).a = none ∧ (ndAt L j).c = 0
  off : ∀ j, j < L.length → ∀ b, blkA (ndAt L j).a = some b → b < w.heap.size ∧ b ≠ g ∧ ¬ X b
  ap : ∀ i j, i < L.length → j < L.length → i ≠ j → ∀ b, blkA (ndAt L i).a = some b → blkA (ndAt L j).a ≠ some b
theorem Ch.wr {K : Nat → Prop} {w w' : World} {g : Nat} {xs : List Value} (k : Ch K w w') (h : Wr w g xs) (hg : ¬ K g) : Wr w' g xs := by
  obtain ⟨r1, r2, r3⟩ := h
  refine ⟨Nat.lt_of_lt_of_le r1 k.size, fun j u hj => k.cell (r2 j u hj) hg, fun j hj => ?_⟩
  rw [← r3 j hj]
  have := k.block g r1 hg
  simp only [World.frozen?, this]
theorem Nk.ch {K : Nat → Prop} {w w' : World} {B g : Nat} {X : Nat → Prop} {L : List NdP} (h : Nk w B g X L) (k : Ch K w w') (hg : ¬ K g) (hl : ∀ j, j < L.length → ∀ b, blkA (ndAt L j).a = some b → ¬ K b) : Nk w' B g X L :=
  ⟨k.wr h.row hg, fun j hj => k.own (h.nx j hj) (fun p e => hl j hj _ (by rw [e]; rfl)), h.zero, fun j hj b e => ⟨Nat.lt_of_lt_of_le (h.off j hj b e).1 k.size, (h.off j hj b e).2⟩, h.ap⟩
theorem Nk.ext {w w' : World} {B g : Nat} {X : Nat → Prop} {L : List NdP} (h : Nk w B g X L) (k : Ext w w') : Nk w' B g X L := h.ch (Ch.of_ext (fun _ => False) k) (by simp) (fun _ _ _ _ => by simp)
/-- A list has grown and is put into its node. -/
theorem Nk.grow {w w1 : World} {B g i g8 n : Nat} {X : Nat → Prop} {L : List NdP} {p : NdP} (h : Nk w B g X L) (hi : i < L.length) (h1 : p.nd.fin = (ndAt L i).nd.fin) (h2 : p.nd.lt = (ndAt L i).nd.lt) (hc : Ch (fun b => blkA (ndAt L i).a = some b) w w1)
    (ha : p.a = some ⟨g8, 0, none⟩) (hn : p.nd.nx.length = n) (hn0 : 0 < n) (ho : Own w1 B 2 1 (some ⟨g8, 0, none⟩) n p.c (intsV p.nd.nx)) (hs : blkA (ndAt L i).a = some g8 ∨ w.heap.size ≤ g8) (hX : ∀ b, X b → b < w.heap.size) :
    Nk (w1.setCell ⟨g, i * 3 + 2, none⟩ (.slice (some ⟨g8, 0, none⟩) n p.c)) B g X (L.set i p) ∧ Ch (fun b => b = g ∨ blkA (ndAt L i).a = some b) w (w1.setCell ⟨g, i * 3 + 2, none⟩ (.slice (some ⟨g8, 0, none⟩) n p.c)) := by
  obtain ⟨g9, e9, k1, k2, -, -⟩ := ho.form hn0
  simp only [Option.some.injEq, Addr.mk.injEq, and_true] at e9
  subst e9
  have hgl := h.row.1
  have hz := hc.size
  have hset := Ch.set w1 g (i * 3 + 2) (.slice (some ⟨g8, 0, none⟩) n p.c)
  have hzs := hset.size
  have hg8 : g8 ≠ g ∧ ¬ X g8 := by
    rcases hs with e | e
    · exact (h.off i hi g8 e).2
    · exact ⟨by omega, fun q => by have := hX g8 q; omega⟩
  have hgn : ¬ blkA (ndAt L i).a = some g := fun e => (h.off i hi g e).2.1 rfl
  have hat := fun j => ndAt_set L i j p hi
  have hb : ∀ b, blkA p.a = some b → b = g8 := fun b e => by rw [ha] at e; simpa [blkA] using e.symm
  refine ⟨⟨?_, fun j hj => ?_, fun j hj hj0 => ?_, fun j hj b e => ?_, fun x y hx hy hxy b e f => ?_⟩, ?_⟩
  · have hw := (hc.wr h.row hgn).set (i * 3 + 2) (by rw [ndsV_length]; omega) (.slice (some ⟨g8, 0, none⟩) n p.c)
    rw [ndsV_set L i p hi h1 h2, ha, hn]
    exact hw
  · rw [List.length_set] at hj
    rw [hat j]
    split
    · rw [ha, hn]
      exact hset.own ho (fun q e f => by simp only [Option.some.injEq] at e; subst e; exact hg8.1 f)
    · rename_i hij
      exact hset.own (hc.own (h.nx j hj) (fun q e f => h.ap i j hi hj hij _ f (by rw [e]; rfl))) (fun q e f => (h.off j hj q.block (by rw [e]; rfl)).2.1 f)
  · rw [List.length_set] at hj
    rw [hat j] at hj0 ⊢
    split at hj0
    · omega
    · rename_i hij
      rw [if_neg hij]
      exact h.zero j hj hj0
  · rw [List.length_set] at hj
    rw [hat j] at e
    split at e
    · rw [hb b e]
      exact ⟨by omega, hg8⟩
    · obtain ⟨q1, q2⟩ := h.off j hj b e
      exact ⟨by omega, q2⟩
  · rw [List.length_set] at hx hy
    rw [hat x] at e
    rw [hat y] at f
    split at e
    · rename_i hix
      rw [if_neg (by omega)] at f
      have e2 := hb b e
      subst e2
      rcases hs with s | s
      · exact h.ap i y hi hy (by omega) _ s f
      · have := (h.off y hy _ f).1
        omega
    · split at f
      · rename_i hix hiy
        have f2 := hb b f
        subst f2
        rcases hs with s | s
        · exact h.ap i x hi hx hix _ s e
        · have := (h.off x hx _ e).1
          omega
      · exact h.ap x y hx hy hxy b e f
  · exact (hc.mono (fun b _ e => .inr e)).next hset (fun b _ e => .inl e)
theorem Nk.dg {w : World} {B g : Nat} {X : Nat → Prop} {L : List NdP} (h : Nk w B g X L) : DgRd w (some ⟨g, 0, none⟩) L :=
  ⟨h.row.rd, fun p hp => by
    obtain ⟨j, hj, rfl⟩ := List.getElem_of_mem hp
    have e : L[j] = ndAt L j := by unfold ndAt; rw [List.getD_eq_getElem?_getD, List.getElem?_eq_getElem hj]; rfl
    rw [e]
    exact (h.nx j hj).rd⟩
theorem Nk.far {w w' : World} {B g : Nat} {X K : Nat → Prop} {L : List NdP} (h : Nk w B g X L) (hg : B ≤ g) (k : Ch K w w') (hk : ∀ b, K b → b < B) : DgRd w' (some ⟨g, 0, none⟩) L :=
  (h.ch k (fun q => by have := hk _ q; omega) (fun j hj b e q => by
    have h1 := hk _ q
    by_cases h0 : (ndAt L j).nd.nx.length = 0
    · rw [(h.zero j hj h0).1] at e
      simp [blkA] at e
    · obtain ⟨g9, e9, k1, -⟩ := (h.nx j hj).form (by omega)
      rw [e9] at e
      have e2 : g9 = b := by simpa [blkA] using e
      omega)).dg
theorem ndAt_bare {N : List Nd} {o : List Nat} {j : Nat} (hj : j < o.length) : (ndAt (o.map (bareN N)) j).a = none ∧ (ndAt (o.map (bareN N)) j).c = 0 ∧ (ndAt (o.map (bareN N)) j).nd.nx = [] := by
  unfold ndAt
  rw [List.getD_eq_getElem?_getD, List.getElem?_map, List.getElem?_eq_getElem hj]
  exact ⟨rfl, rfl, rfl⟩
theorem Nk.of {w : World} {B g : Nat} {X : Nat → Prop} {N : List Nd} {o : List Nat} (h : Wr w g (ndsV (o.map (bareN N)))) : Nk w B g X (o.map (bareN N)) := by
  have hb := fun j (hj : j < (o.map (bareN N)).length) => ndAt_bare (N := N) (o := o) (j := j) (by rw [List.length_map] at hj; exact hj)
  refine ⟨h, fun j hj => ?_, fun j hj _ => ⟨(hb j hj).1, (hb j hj).2.1⟩, fun j hj b e => ?_, fun i j hi hj _ b e => ?_⟩
  · obtain ⟨e1, e2, e3⟩ := hb j hj
    rw [e1, e2, e3]
    exact Own.empty _ _ _ _ _
  · rw [(hb j hj).1] at e
    simp [blkA] at e
  · rw [(hb i hi).1] at e
    simp [blkA] at e
theorem ndsOf_set (L : List NdP) (i : Nat) (p : NdP) : ndsOf (L.set i p) = (ndsOf L).set i p.nd := by simp [ndsOf, List.map_set]
theorem ndsOf_bare (N : List Nd) (o : List Nat) : ndsOf (o.map (bareN N)) = fillN N o 0 := by
  rw [fillN_zero]
  simp [ndsOf, bareN, numI_zero]
set_option maxRecDepth 100000 in
set_option maxHeartbeats 8000000 in
theorem l06Number_any (a : Option Addr) (c : Nat) (LN : List NdP) (root : Nat) (w : World) (h : DgRd w a LN) (hr : root < LN.length) (hlen : LN.length ≤ 200000) (hDn : Dn (ndsOf LN)) (hnx : ∀ p ∈ LN, p.nd.nx.length ≤ 100000) :
    Calls Tryz.prog 50 #[.slice a LN.length c, .int .i64 (root : Int)] w fun e w' => ∃ g cg L, ndsOf L = numb (ndsOf LN) root ∧ e = .returned (.slice (some ⟨g, 0, none⟩) L.length cg) ∧ (∀ (K : Nat → Prop) (w'' : World), Ch K w' w'' → (∀ b, K b → b < w.heap.size) → DgRd w'' (some ⟨g, 0, none⟩) L) ∧ Ext w w' := by
  obtain ⟨bN, oN, rfl, hcl0⟩ := h.1.nds (by omega)
  have hbN := World.block_lt_of_cell? _ _ (hcl0 0 (by omega)).1
  clear hcl0
  have hLe : (ndsOf LN).length = LN.length := ndsOf_length LN
  have HV := hid (fun (gP cP f : Nat) => svisit_any w.heap.size w.heap.size gP cP (some ⟨bN, oN, none⟩) c LN hlen hDn hnx (fun p e => by simp only [Option.some.injEq] at e; subst e; exact hbN) f)
  have HH := hid h
  have HDN := hid hDn
  have HNX := hid hnx
  clear h hDn hnx
  go_enter Tryz.func50, Tryz.ntmps50
  have HB1 : Hid (Bx (w.alloc (.cells #[.slice (some ⟨bN, oN, none⟩) LN.length c, .slice none 0 0, .slice none 0 0] 122)) w.heap.size 122 [.slice (some ⟨bN, oN, none⟩) LN.length c, .slice none 0 0, .slice none 0 0]) := hid (Bx.new w _ _)
  have hE1 : Ext w (w.alloc (.cells #[.slice (some ⟨bN, oN, none⟩) LN.length c, .slice none 0 0, .slice none 0 0] 122)) := (Ext.refl w).alloc _
  go_wp2_with fail
  go_loopw [14] (fun v wr => ∃ (i : Nat) (aP : Option Addr) (cP : Nat), v = .int .i64 (i : Int) ∧ i ≤ LN.length ∧ Hid (Bx wr w.heap.size 122 [.slice (some ⟨bN, oN, none⟩) LN.length c, .slice aP i cP, .slice none 0 0]) ∧ Hid (Own wr (w.heap.size + 1) 2 1 aP i cP (intsV (List.replicate i (-1)))) ∧
      Hid (aP = none ∧ i = 0 ∧ cP = 0 ∧ intsV (List.replicate i (-1)) = [] ∨ ∃ g, aP = some ⟨g, 0, none⟩) ∧ Hid (∀ p, aP = some p → w.heap.size < p.block) ∧ Ext w wr) (fun v _ => LN.length - (intOf v).toNat)
  case atStart => exact ⟨0, none, 0, rfl, by omega, HB1, hid (Own.empty _ _ _ _ _), hid (.inl ⟨rfl, rfl, rfl, rfl⟩), hid (fun p e => by cases e), hE1⟩
  case round =>
    clear HB1 hE1
    obtain ⟨i, aP, cP, rfl, hi, HB, HO, HS, HP, hx⟩ := hrel
    have hsz := hx.size
    have hrl := HB.out.lt
    by_cases hil : i < LN.length
    · have c0 := HB.out.cell (i := 0) rfl
      have c1 := HB.out.cell (i := 1) rfl
      have hx3 : Ext wr (wr.alloc (.cells #[.int .i64 (-1)] 2)) := (Ext.refl _).alloc _
      have HO4 := hid (HO.out.ext hx3)
      have hnr : ¬ blkA aP = some w.heap.size := fun e => by
        obtain ⟨p, e1, e2⟩ := blk_of e
        have := HP.out p e1
        omega
      have HNR := hid hnr
      have HX3 := hid hx3
      have HX := hid hx
      clear hnr hx3 hx
      go_wp2_with (at_builtin; refine wpList_appendO rfl _ _ 90 rfl El_int64 rfl rfl [.int .i64 (-1)] (rd_of_new (by simp) _ _) rfl (by omega) (by simp [Value.oneCell']) HO4.out HS.out (by simp; omega) (by unfold maxLen; omega) (by omega) ?_; intro g8 c8 w8 ho8 hc8 hs8; have HO8 := hid ho8; have HC8 := hid hc8; have HB8 := hid ((HB.out.ext HX3.out).ch hc8 HNR.out); have e1 := HB8.out.cell (i := 1) rfl; have ef := HB8.out.free 1; clear ho8 hc8 hs8)
      have hg8 : w.heap.size < g8 := by
        obtain ⟨g9, e9, k1, -⟩ := HO8.out.form (by omega)
        simp only [Option.some.injEq, Addr.mk.injEq, and_true] at e9
        subst e9
        exact k1
      have HE9 := hid ((((Ch.of_ext _ (HX.out.trans HX3.out)).next HC8.out (J := fun b => blkA aP = some b) (K := fun _ => False) (fun b hb e => by
        obtain ⟨p, e1, e2⟩ := blk_of e
        have := HP.out p e1
        omega)).next (Ch.set w8 w.heap.size 1 (.slice (some ⟨g8, 0, none⟩) (i + 1) c8)) (fun b hb e => by omega)).ext (by simp))
      go_roundw
      case rel =>
        refine ⟨i + 1, some ⟨g8, 0, none⟩, c8, by go_num, by omega, hid (HB8.out.set 1 _), hid ?_, hid (.inr ⟨g8, rfl⟩), hid (fun p e => by simp only [Option.some.injEq] at e; subst e; exact hg8), HE9.out⟩
        have e : intsV (List.replicate (i + 1) (-1)) = intsV (List.replicate i (-1)) ++ [.int .i64 (-1)] := by rw [List.replicate_succ', intsV_add]; rfl
        rw [e]
        exact (Ch.set w8 w.heap.size 1 (.slice (some ⟨g8, 0, none⟩) (i + 1) c8)).own HO8.out (fun p e f => by simp only [Option.some.injEq] at e; subst e; simp at f; omega)
      case measure => simp [intOf]; omega
    · obtain rfl : i = LN.length := by omega
      obtain ⟨gP, rfl⟩ : ∃ g, aP = some ⟨g, 0, none⟩ := by
        rcases HS.out with ⟨-, e, -⟩ | e
        · omega
        · exact e
      have hgP : w.heap.size < gP := HP.out _ rfl
      have hgP2 : gP < wr.heap.size := by
        obtain ⟨g9, e9, k1, k2, -⟩ := HO.out.form (by omega)
        simp only [Option.some.injEq, Addr.mk.injEq, and_true] at e9
        subst e9
        exact k2
      have hrk : Rk wr w.heap.size w.heap.size gP cP (some ⟨bN, oN, none⟩) c (ndsOf LN) none 0 [] :=
        ⟨by rw [hLe]; exact HB.out, by rw [hLe, plcs_nil]; exact HO.out.mono (by omega), Own.empty _ _ _ _ _, .inl ⟨rfl, rfl, rfl, rfl⟩, ⟨by omega, by omega, by omega, hgP2⟩, fun p e => by cases e⟩
      have HVC := hid (HV.out gP cP LN.length root [] none 0 wr hr hr (by simp) List.nodup_nil (by simp) hrk (fun w' hb => ⟨HH.out.1.ext (Ext.of (Below.trans hx.below hb)), fun p hp => (HH.out.2 p hp).ext (Ext.of (Below.trans hx.below hb))⟩))
      have HX := hid hx
      clear hrk HB HO HS HP hx
      go_wp2_with fail
      with_reducible refine HVC.out.mono ?_
      rintro e w1 ⟨rfl, aq, cq, hrk, hbw⟩
      have hN2 : root < (ndsOf LN).length := by rw [hLe]; exact hr
      obtain ⟨f1, f2, f3, f4⟩ := dfs_ok HDN.out LN.length [] root hr hN2 List.nodup_nil (by simp)
      obtain ⟨o, ho⟩ : ∃ o, dfs (ndsOf LN) LN.length [] root = o := ⟨_, rfl⟩
      rw [ho] at hrk f1 f2 f3 f4
      have HNB : Hid (numb (ndsOf LN) root = o.map (numN (ndsOf LN) o)) := hid (by unfold numb; rw [hLe, ho])
      have hop : 0 < o.length := List.length_pos_of_mem f3
      obtain ⟨g, rfl⟩ : ∃ g, aq = some ⟨g, 0, none⟩ := by
        rcases hrk.sh with ⟨-, e, -⟩ | e
        · omega
        · exact e
      obtain ⟨hgB, hgl, hgr, hgg⟩ := hrk.aqm _ rfl
      simp only at hgB hgl hgr hgg
      obtain ⟨g9, e9, -, -, -, k4⟩ := hrk.own.form hop
      simp only [Option.some.injEq, Addr.mk.injEq, and_true] at e9
      subst e9
      have HNK0 : Hid (Nk w1 w.heap.size g (fun b => b = w.heap.size ∨ b = gP) (o.map (bareN (ndsOf LN)))) := hid (Nk.of (Wr.ofk k4))
      have HBX0 : Hid (Bx w1 w.heap.size 122 [.slice (some ⟨bN, oN, none⟩) LN.length c, .slice (some ⟨gP, 0, none⟩) LN.length cP, .slice (some ⟨g, 0, none⟩) o.length cq]) := hid (by have := hrk.bx; rwa [hLe] at this)
      have HPL0 : Hid (Own w1 w.heap.size 2 1 (some ⟨gP, 0, none⟩) LN.length cP (intsV (plcs o LN.length))) := hid (by have := hrk.pl; rwa [hLe] at this)
      have HBW0 : Hid (Below w.heap.size w w1) := hid (Below.trans HX.out.below hbw)
      have HOLD := hid (fun (w' : World) (hb : Below w.heap.size w w') => (⟨HH.out.1.ext (Ext.of hb), fun p hp => (HH.out.2 p hp).ext (Ext.of hb)⟩ : DgRd w' (some ⟨bN, oN, none⟩) LN))
      have HF1 := hid f1
      have HF2 := hid f2
      have HF4 := hid f4
      have HF0 := hid (ndsOf_bare (ndsOf LN) o)
      clear hrk f1 f2 f3 f4 ho k4 hbw HVC HV
      go_wp2_with fail
      go_loopw [6] (fun v6 wr => ∃ (k : Nat) (L : List NdP), v6 = .int .i64 (k : Int) ∧ k ≤ LN.length ∧ Hid (Bx wr w.heap.size 122 [.slice (some ⟨bN, oN, none⟩) LN.length c, .slice (some ⟨gP, 0, none⟩) LN.length cP, .slice (some ⟨g, 0, none⟩) o.length cq]) ∧
        Hid (Own wr w.heap.size 2 1 (some ⟨gP, 0, none⟩) LN.length cP (intsV (plcs o LN.length))) ∧ Hid (Nk wr w.heap.size g (fun b => b = w.heap.size ∨ b = gP) L) ∧ Hid (ndsOf L = fillN (ndsOf LN) o k) ∧ Hid (Below w.heap.size w wr)) (fun v6 _ => LN.length - (intOf v6).toNat)
      case atStart => exact ⟨0, _, rfl, by omega, HBX0, HPL0, HNK0, HF0, HBW0⟩
      case round =>
        clear HBX0 HPL0 HNK0 HF0 HBW0
        obtain ⟨k, L, rfl, hk, HBX, HPL, HNK, HFI, HBW⟩ := hrel
        have r0 := HBX.out.cell (i := 0) rfl
        have r1 := HBX.out.cell (i := 1) rfl
        have r2 := HBX.out.cell (i := 2) rfl
        by_cases hkl : k < LN.length
        · have hpc : wr.cell? ⟨gP, k, none⟩ = some (.int .i64 (plc o k)) := by
            obtain ⟨b9, o9, e9, hcl⟩ := HPL.out.rd.int (by rw [plcs_len]; omega)
            simp only [Option.some.injEq, Addr.mk.injEq, and_true] at e9
            obtain ⟨rfl, rfl⟩ := e9
            have h := hcl k (by rw [plcs_len]; exact hkl)
            rw [plcs_at hkl, Nat.zero_add] at h
            exact h
          by_cases hko : k ∈ o
          · rw [plc_pos hko] at hpc
            have ha0 := idx_lt hko
            obtain ⟨a0, hA0⟩ : ∃ x, o.idxOf k = x := ⟨_, rfl⟩
            rw [hA0] at hpc ha0
            have HA0 := hid hA0
            have hp0 : ¬ ((a0 : Int) < 0) := by omega
            obtain ⟨p0, hp0'⟩ : ∃ p, ndAt LN k = p := ⟨_, rfl⟩
            obtain ⟨⟨fin, lt, nx0⟩, pa, pc⟩ := p0
            have HP0 := hid hp0'
            obtain ⟨q, hq⟩ : ∃ q, oN + k * 3 = q := ⟨_, rfl⟩
            have HNB2 : Hid (∀ w', Below w.heap.size w w' → w'.cell? ⟨bN, q, none⟩ = some (.bool fin) ∧ w'.cell? ⟨bN, q + 1, none⟩ = some (.string lt) ∧ w'.cell? ⟨bN, q + 2, none⟩ = some (.slice pa nx0.length pc)) := hid (by
              intro w' hb
              obtain ⟨b9, o9, e9, hcl⟩ := (HOLD.out w' hb).1.nds (by omega)
              simp only [Option.some.injEq, Addr.mk.injEq, and_true] at e9
              obtain ⟨rfl, rfl⟩ := e9
              obtain ⟨x0, x1, x2⟩ := hcl k hkl
              rw [hp0', hq] at x0 x1 x2
              exact ⟨x0, x1, x2⟩)
            have HPM : Hid (⟨⟨fin, lt, nx0⟩, pa, pc⟩ ∈ LN) := hid (by rw [← hp0']; exact ndAt_mem LN k hkl)
            have hnl : nx0.length ≤ 100000 := HNX.out _ HPM.out
            have hgN : ndG (ndsOf LN) k = ⟨fin, lt, nx0⟩ := by rw [ndG_of, hp0']
            have HGN := hid hgN
            have HNS : Hid (∀ i (h : i < nx0.length), 0 ≤ nx0[i] ∧ nx0[i] < (k : Int) ∧ (nx0[i]).toNat ∈ o) := hid (fun i h => by
              obtain ⟨-, h2⟩ := HDN.out k (by rw [hLe]; exact hkl)
              rw [hgN] at h2
              have h3 := h2 _ (List.getElem_mem h)
              refine ⟨h3.1, h3.2, HF4.out k hko (by simp) _ ?_⟩
              unfold nxs
              rw [hgN]
              exact List.mem_map_of_mem (List.getElem_mem h))
            have HKO := hid hko
            clear hA0 hp0' hgN hko
            have hx0 := HNB2.out wr HBW.out
            obtain ⟨x0, x1, x2⟩ := hx0
            go_wp2_with fail
            go_loopw [8] (fun v8 wr => ∃ (i : Nat) (L : List NdP), v8 = .int .i64 (i : Int) ∧ i ≤ nx0.length ∧ Hid (Bx wr w.heap.size 122 [.slice (some ⟨bN, oN, none⟩) LN.length c, .slice (some ⟨gP, 0, none⟩) LN.length cP, .slice (some ⟨g, 0, none⟩) o.length cq]) ∧
              Hid (Own wr w.heap.size 2 1 (some ⟨gP, 0, none⟩) LN.length cP (intsV (plcs o LN.length))) ∧ Hid (Nk wr w.heap.size g (fun b => b = w.heap.size ∨ b = gP) L) ∧ Hid (ndsOf L = (fillN (ndsOf LN) o k).set a0 (numI (ndsOf LN) o k i)) ∧ Hid (Below w.heap.size w wr)) (fun v8 _ => nx0.length - (intOf v8).toNat)
            case atStart => exact ⟨0, L, rfl, by omega, HBX, HPL, HNK, hid (by rw [HFI.out, ← HA0.out, fillN_at HKO.out]), HBW⟩
            case round =>
              clear HBX HPL HNK HFI HBW r0 r1 r2 x0 x1 x2 hpc
              obtain ⟨i, L, rfl, hi, HBX, HPL, HNK, HFI, HBW⟩ := hrel
              have r0 := HBX.out.cell (i := 0) rfl
              have r1 := HBX.out.cell (i := 1) rfl
              have r2 := HBX.out.cell (i := 2) rfl
              obtain ⟨x0, x1, x2⟩ := HNB2.out wr HBW.out
              by_cases hil : i < nx0.length
              · have hol : L.length = o.length := by rw [← ndsOf_length L, HFI.out, List.length_set, fillN_len]
                have hal : a0 < L.length := by omega
                obtain ⟨bx, ox, rfl, hcx⟩ := ((HOLD.out wr HBW.out).2 _ HPM.out).int (show 0 < nx0.length by omega)
                have hcj : wr.cell? ⟨bx, ox + i, none⟩ = some (.int .i64 nx0[i]) := hcx i hil
                have hbx : bx < w.heap.size := by
                  obtain ⟨b9, o9, e9, hc9⟩ := (HH.out.2 _ HPM.out).int (show 0 < nx0.length by omega)
                  simp only [Option.some.injEq, Addr.mk.injEq, and_true] at e9
                  obtain ⟨rfl, rfl⟩ := e9
                  exact World.block_lt_of_cell? _ _ (hc9 i hil)
                clear hcx
                obtain ⟨hj0, hjk, hjo⟩ := HNS.out i hil
                obtain ⟨jn, hjn⟩ : ∃ jn : Nat, nx0[i] = (jn : Int) := ⟨(nx0[i]).toNat, (Int.toNat_of_nonneg hj0).symm⟩
                have HJN := hid hjn
                rw [hjn] at hcj hj0 hjk hjo
                rw [Int.toNat_natCast] at hjo
                have hpj : wr.cell? ⟨gP, jn, none⟩ = some (.int .i64 (plc o jn)) := by
                  obtain ⟨b9, o9, e9, hcl⟩ := HPL.out.rd.int (by rw [plcs_len]; omega)
                  simp only [Option.some.injEq, Addr.mk.injEq, and_true] at e9
                  obtain ⟨rfl, rfl⟩ := e9
                  have h := hcl jn (by rw [plcs_len]; omega)
                  rw [plcs_at (by omega), Nat.zero_add] at h
                  exact h
                rw [plc_pos hjo] at hpj
                obtain ⟨I, hI⟩ : ∃ I, o.idxOf jn = I := ⟨_, rfl⟩
                rw [hI] at hpj
                have hId : I < o.length := by rw [← hI]; exact idx_lt hjo
                obtain ⟨nxi, hnxi⟩ : ∃ l, ((nx0.take i).map fun j => (o.idxOf j.toNat : Int)) = l := ⟨_, rfl⟩
                have hnum : numI (ndsOf LN) o k i = ⟨fin, lt, nxi⟩ := by unfold numI; rw [HGN.out, ← hnxi]
                have hnl2 : nxi.length = i := by rw [← hnxi, List.length_map, List.length_take]; omega
                have hnx2 : numI (ndsOf LN) o k (i + 1) = ⟨fin, lt, nxi ++ [(I : Int)]⟩ := by
                  unfold numI
                  rw [HGN.out]
                  show (⟨fin, lt, (nx0.take (i + 1)).map _⟩ : Nd) = _
                  rw [List.take_succ_eq_append_getElem hil, List.map_append, hnxi, List.map_singleton, hjn, Int.toNat_natCast, hI]
                have HNUM2 := hid hnx2
                have hat : (ndAt L a0).nd = ⟨fin, lt, nxi⟩ := by
                  rw [← ndG_of, HFI.out]
                  unfold ndG
                  rw [List.getD_eq_getElem?_getD, List.getElem?_set_self (by rw [fillN_len]; omega), hnum]
                  rfl
                obtain ⟨pp, hpp⟩ : ∃ p, ndAt L a0 = p := ⟨_, rfl⟩
                have hown := HNK.out.nx a0 hal
                have hzer := HNK.out.zero a0 hal
                have hoff := HNK.out.off a0 hal
                rw [hpp] at hat hown hzer hoff
                obtain ⟨nd9, ai, ci⟩ := pp
                simp only at hat
                subst hat
                simp only at hown hzer hoff
                rw [hnl2] at hown hzer
                obtain ⟨u, hu⟩ : ∃ u, a0 * 3 = u := ⟨_, rfl⟩
                obtain ⟨b9, o9, e9, hcl⟩ := HNK.out.row.rd.nds (by omega)
                simp only [Option.some.injEq, Addr.mk.injEq, and_true] at e9
                obtain ⟨rfl, rfl⟩ := e9
                obtain ⟨y0, y1, y2⟩ := hcl a0 hal
                rw [hpp, Nat.zero_add, hu] at y0 y1 y2
                simp only [hnl2] at y0 y1 y2
                have yf : wr.frozen? ⟨g, u + 2, none⟩ = false := HNK.out.row.2.2 _ (by rw [ndsV_length]; omega)
                obtain ⟨p1, hp1⟩ : ∃ p, ox + i = p := ⟨_, rfl⟩
                rw [hp1] at hcj
                have hgs : g < wr.heap.size := HNK.out.row.1
                have hgps : gP < wr.heap.size := World.block_lt_of_cell? _ _ hpj
                have hrs := HBX.out.lt
                have hwb := HBW.out.size
                have hge : ∀ b, blkA ai = some b → w.heap.size < b ∧ b ≠ g ∧ b ≠ gP := fun b e => by
                  obtain ⟨q1, q2, q3⟩ := hoff b e
                  obtain ⟨p9, e1, e2⟩ := blk_of e
                  have hi0 : 0 < i := by
                    by_cases h : i = 0
                    · rw [(hzer h).1] at e1
                      cases e1
                    · omega
                  obtain ⟨g9, e9, k1, k2, -⟩ := hown.form hi0
                  rw [e9] at e1
                  simp only [Option.some.injEq] at e1
                  subst e1
                  simp only at e2
                  subst e2
                  exact ⟨by have : ¬ g9 = w.heap.size := fun e => q3 (.inl e); omega, q2, fun e => q3 (.inr e)⟩
                have hn1 : ¬ blkA ai = some w.heap.size := fun e => by have := hge _ e; omega
                have hn2 : ¬ blkA ai = some g := fun e => by have := hge _ e; omega
                have hn3 : ¬ blkA ai = some bN := fun e => by have := hge _ e; omega
                have hn4 : ¬ blkA ai = some bx := fun e => by have := hge _ e; omega
                have hn5 : ¬ blkA ai = some gP := fun e => by have := hge _ e; omega
                have HN1 := hid hn1
                have HN2 := hid hn2
                have HN3 := hid hn3
                have HN4 := hid hn4
                have HN5 := hid hn5
                have HSH : Hid (ai = none ∧ i = 0 ∧ ci = 0 ∧ intsV nxi = [] ∨ ∃ g, ai = some ⟨g, 0, none⟩) := hid (by
                  by_cases h : i = 0
                  · exact .inl ⟨(hzer h).1, h, (hzer h).2, by rw [List.eq_nil_of_length_eq_zero (l := nxi) (by omega)]; rfl⟩
                  · obtain ⟨g9, e9, -⟩ := hown.form (by omega)
                    exact .inr ⟨g9, e9⟩)
                have HEX := hid (fun (w' : World) (k : Ext wr.drew w') => hown.ext ((Ext.refl _).drew.trans k))
                have HPP := hid hpp
                have HNL2 := hid hnl2
                have HGE := hid hge
                clear hown hzer hoff hcl hpp hn1 hn2 hn3 hn4 hn5 hnum hnx2 hnxi hI hjn hjo hnl2 hge
                go_wp2_with fail
                refine wp_region_flagM_at 29 28 (Ch (fun b => blkA ai = some b)) (Ch (fun b => blkA ai = some b)) (fun fl => [fun v _ => v = .pointer (some ⟨w.heap.size, 0, none⟩), fun v _ => v = .pointer (some ⟨w.heap.size, 0, none⟩), fun v _ => v = .pointer (some ⟨w.heap.size, 2, none⟩), fun v _ => v = .slice (some ⟨g, 0, none⟩) o.length cq, fun v _ => v = .int .i64 (a0 : Int), fun v _ => v = .pointer (some ⟨w.heap.size, 0, none⟩), fun v _ => v = .pointer (some ⟨w.heap.size, 0, none⟩), fun v _ => v = .pointer (some ⟨w.heap.size, 2, none⟩), fun v _ => v = .slice (some ⟨g, 0, none⟩) o.length cq, fun v _ => v = .int .i64 (a0 : Int), fun v _ => v = .pointer (some ⟨g, u, none⟩), fun v _ => v = .pointer (some ⟨g, u + 2, none⟩), fun v _ => v = .slice ai i ci, fun v _ => v = .pointer (some ⟨w.heap.size, 0, none⟩), fun v _ => v = .pointer (some ⟨w.heap.size, 0, none⟩), fun v _ => v = .pointer (some ⟨w.heap.size, 1, none⟩), fun v _ => v = .slice (some ⟨gP, 0, none⟩) LN.length cP, fun v _ => v = .slice (some ⟨bN, oN, none⟩) LN.length c, fun v _ => v = .int .i64 (k : Int), fun v _ => v = .pointer (some ⟨bN, q, none⟩), fun v _ => v = .pointer (some ⟨bN, q + 2, none⟩), fun v _ => v = .slice (some ⟨bx, ox, none⟩) nx0.length pc, fun v _ => v = .int .i64 (i : Int), fun v _ => v = .pointer (some ⟨bx, p1, none⟩), fun v _ => v = .int .i64 (jn : Int), fun v _ => v = .pointer (some ⟨gP, jn, none⟩), fun v _ => v = .int .i64 (I : Int), fun v w' => fl = false → ∃ g, v = .slice (some ⟨g, 0, none⟩) 1 1 ∧ Rd w' (some ⟨g, 0, none⟩) [.int .i64 (I : Int)], fun v w' => fl = true ∧ ∃ g' c', v = .slice (some ⟨g', 0, none⟩) (i + 1) c' ∧ Own w' w.heap.size 2 1 (some ⟨g', 0, none⟩) (i + 1) c' (intsV nxi ++ [.int .i64 (I : Int)]) ∧ (blkA ai = some g' ∨ wr.heap.size ≤ g')])
                  [[(5, none)], [(54, some 0)], [(55, some 1)], [(56, some 2)], [(7, none)], [(5, none)], [(59, some 5)], [(60, some 6)], [(61, some 7)], [(7, none)], [(62, some 8), (63, some 9)], [(64, some 10)], [(65, some 11)], [(5, none)], [(67, some 13)], [(68, some 14)], [(69, some 15)], [(0, none)], [(6, none)], [(71, some 17), (72, some 18)], [(73, some 19)], [(74, some 20)], [(8, none)], [(75, some 21), (76, some 22)], [(77, some 23)], [(70, some 16), (78, some 24)], [(79, some 25)], [(80, some 26)], [(66, some 12), (81, some 27)]] (by kernel_rfl) (by kernel_rfl) rfl (by omega) (fun x h => Ch.of_ext _ h) (fun x y h k => h.thenExt k) (fun x y h k => (Ch.of_ext _ h).trans k) ?_ ?_ ?_ ?_
                · intro fl i hi
                  obtain rfl | rfl | rfl | rfl | rfl | rfl | rfl | rfl | rfl | rfl | rfl | rfl | rfl | rfl | rfl | rfl | rfl | rfl | rfl | rfl | rfl | rfl | rfl | rfl | rfl | rfl | rfl | rfl | rfl : i = 0 ∨ i = 1 ∨ i = 2 ∨ i = 3 ∨ i = 4 ∨ i = 5 ∨ i = 6 ∨ i = 7 ∨ i = 8 ∨ i = 9 ∨ i = 10 ∨ i = 11 ∨ i = 12 ∨ i = 13 ∨ i = 14 ∨ i = 15 ∨ i = 16 ∨ i = 17 ∨ i = 18 ∨ i = 19 ∨ i = 20 ∨ i = 21 ∨ i = 22 ∨ i = 23 ∨ i = 24 ∨ i = 25 ∨ i = 26 ∨ i = 27 ∨ i = 28 := by omega
                  · exact fun _ _ _ h _ => h
                  · exact fun _ _ _ h _ => h
                  · exact fun _ _ _ h _ => h
                  · exact fun _ _ _ h _ => h
                  · exact fun _ _ _ h _ => h
                  · exact fun _ _ _ h _ => h
                  · exact fun _ _ _ h _ => h
                  · exact fun _ _ _ h _ => h
                  · exact fun _ _ _ h _ => h
                  · exact fun _ _ _ h _ => h
                  · exact fun _ _ _ h _ => h
                  · exact fun _ _ _ h _ => h
                  · exact fun _ _ _ h _ => h
                  · exact fun _ _ _ h _ => h
                  · exact fun _ _ _ h _ => h
                  · exact fun _ _ _ h _ => h
                  · exact fun _ _ _ h _ => h
                  · exact fun _ _ _ h _ => h
                  · exact fun _ _ _ h _ => h
                  · exact fun _ _ _ h _ => h
                  · exact fun _ _ _ h _ => h
                  · exact fun _ _ _ h _ => h
                  · exact fun _ _ _ h _ => h
                  · exact fun _ _ _ h _ => h
                  · exact fun _ _ _ h _ => h
                  · exact fun _ _ _ h _ => h
                  · exact fun _ _ _ h _ => h
                  · exact fun v x y h k hf => by obtain ⟨g, e1, e2⟩ := h hf; exact ⟨g, e1, e2.ext k⟩
                  · exact fun v x y h k => by obtain ⟨hf, g', c', e1, o1, s1⟩ := h; exact ⟨hf, g', c', e1, o1.ext k, s1⟩
                · intro i hi hiM
                  obtain rfl | rfl | rfl | rfl | rfl | rfl | rfl | rfl | rfl | rfl | rfl | rfl | rfl | rfl | rfl | rfl | rfl | rfl | rfl | rfl | rfl | rfl | rfl | rfl | rfl | rfl | rfl | rfl | rfl : i = 0 ∨ i = 1 ∨ i = 2 ∨ i = 3 ∨ i = 4 ∨ i = 5 ∨ i = 6 ∨ i = 7 ∨ i = 8 ∨ i = 9 ∨ i = 10 ∨ i = 11 ∨ i = 12 ∨ i = 13 ∨ i = 14 ∨ i = 15 ∨ i = 16 ∨ i = 17 ∨ i = 18 ∨ i = 19 ∨ i = 20 ∨ i = 21 ∨ i = 22 ∨ i = 23 ∨ i = 24 ∨ i = 25 ∨ i = 26 ∨ i = 27 ∨ i = 28 := by omega
                  · exact fun _ _ _ _ h _ => h
                  · exact fun _ _ _ _ h _ => h
                  · exact fun _ _ _ _ h _ => h
                  · exact fun _ _ _ _ h _ => h
                  · exact fun _ _ _ _ h _ => h
                  · exact fun _ _ _ _ h _ => h
                  · exact fun _ _ _ _ h _ => h
                  · exact fun _ _ _ _ h _ => h
                  · exact fun _ _ _ _ h _ => h
                  · exact fun _ _ _ _ h _ => h
                  · exact fun _ _ _ _ h _ => h
                  · exact fun _ _ _ _ h _ => h
                  · exact fun _ _ _ _ h _ => h
                  · exact fun _ _ _ _ h _ => h
                  · exact fun _ _ _ _ h _ => h
                  · exact fun _ _ _ _ h _ => h
                  · exact fun _ _ _ _ h _ => h
                  · exact fun _ _ _ _ h _ => h
                  · exact fun _ _ _ _ h _ => h
                  · exact fun _ _ _ _ h _ => h
                  · exact fun _ _ _ _ h _ => h
                  · exact fun _ _ _ _ h _ => h
                  · exact fun _ _ _ _ h _ => h
                  · exact fun _ _ _ _ h _ => h
                  · exact fun _ _ _ _ h _ => h
                  · exact fun _ _ _ _ h _ => h
                  · exact fun _ _ _ _ h _ => h
                  · exact fun v x y _ _ _ hf => by cases hf
                  · exact absurd rfl hiM
                · refine ⟨?_, ?_, ?_, ?_, ?_, ?_, ?_, ?_, ?_, ?_, ?_, ?_, ?_, ?_, ?_, ?_, ?_, ?_, ?_, ?_, ?_, ?_, ?_, ?_, ?_, ?_, ?_, ?_, ?_, trivial⟩
                  · rw [if_neg (by decide)]
                    rintro fl ρ w1 hw hcst hfn hk
                    clear hw
                    simp only [known, List.getD_cons_zero, List.getD_cons_succ, Nat.reduceAdd] at hk
                    simp only [List.getD_cons_zero, List.getD_cons_succ, Nat.reduceAdd, flowAt]
                    go_simp
                    exact ⟨Ext.refl _, by first | rfl | trivial⟩
                  · rw [if_neg (by decide)]
                    rintro fl ρ w1 hw hcst hfn hk
                    clear hw
                    simp only [known, List.getD_cons_zero, List.getD_cons_succ, Nat.reduceAdd] at hk
                    simp only [List.getD_cons_zero, List.getD_cons_succ, Nat.reduceAdd, flowAt]
                    go_simp
                    exact ⟨Ext.refl _, by first | rfl | trivial⟩
                  · rw [if_neg (by decide)]
                    rintro fl ρ w1 hw hcst hfn hk
                    clear hw
                    simp only [known, List.getD_cons_zero, List.getD_cons_succ, Nat.reduceAdd] at hk
                    simp only [List.getD_cons_zero, List.getD_cons_succ, Nat.reduceAdd, flowAt]
                    go_simp
                    exact ⟨Ext.refl _, by first | rfl | trivial⟩
                  · rw [if_neg (by decide)]
                    rintro fl ρ w1 hw hcst hfn hk
                    have c0 := hw.cell (b := w.heap.size) (o := 2) (v := .slice (some ⟨g, 0, none⟩) o.length cq) (by first | (simp [*]; done) | (simp [*, go_sem]; done) | go_cell) (by first | exact HN1.out | exact HN2.out | exact HN3.out | exact HN4.out | exact HN5.out)
                    clear hw
                    simp only [known, List.getD_cons_zero, List.getD_cons_succ, Nat.reduceAdd] at hk
                    simp only [List.getD_cons_zero, List.getD_cons_succ, Nat.reduceAdd, flowAt]
                    go_simp
                    exact ⟨Ext.refl _, by first | rfl | trivial⟩
                  · rw [if_neg (by decide)]
                    rintro fl ρ w1 hw hcst hfn hk
                    clear hw
                    simp only [known, List.getD_cons_zero, List.getD_cons_succ, Nat.reduceAdd] at hk
                    simp only [List.getD_cons_zero, List.getD_cons_succ, Nat.reduceAdd, flowAt]
                    go_simp
                    exact ⟨Ext.refl _, by first | rfl | trivial⟩
                  · rw [if_neg (by decide)]
                    rintro fl ρ w1 hw hcst hfn hk
                    clear hw
                    simp only [known, List.getD_cons_zero, List.getD_cons_succ, Nat.reduceAdd] at hk
                    simp only [List.getD_cons_zero, List.getD_cons_succ, Nat.reduceAdd, flowAt]
                    go_simp
                    exact ⟨Ext.refl _, by first | rfl | trivial⟩
                  · rw [if_neg (by decide)]
                    rintro fl ρ w1 hw hcst hfn hk
                    clear hw
                    simp only [known, List.getD_cons_zero, List.getD_cons_succ, Nat.reduceAdd] at hk
                    simp only [List.getD_cons_zero, List.getD_cons_succ, Nat.reduceAdd, flowAt]
                    go_simp
                    exact ⟨Ext.refl _, by first | rfl | trivial⟩
                  · rw [if_neg (by decide)]
                    rintro fl ρ w1 hw hcst hfn hk
                    clear hw
                    simp only [known, List.getD_cons_zero, List.getD_cons_succ, Nat.reduceAdd] at hk
                    simp only [List.getD_cons_zero, List.getD_cons_succ, Nat.reduceAdd, flowAt]
                    go_simp
                    exact ⟨Ext.refl _, by first | rfl | trivial⟩
                  · rw [if_neg (by decide)]
                    rintro fl ρ w1 hw hcst hfn hk
                    have c0 := hw.cell (b := w.heap.size) (o := 2) (v := .slice (some ⟨g, 0, none⟩) o.length cq) (by first | (simp [*]; done) | (simp [*, go_sem]; done) | go_cell) (by first | exact HN1.out | exact HN2.out | exact HN3.out | exact HN4.out | exact HN5.out)
                    clear hw
                    simp only [known, List.getD_cons_zero, List.getD_cons_succ, Nat.reduceAdd] at hk
                    simp only [List.getD_cons_zero, List.getD_cons_succ, Nat.reduceAdd, flowAt]
                    go_simp
                    exact ⟨Ext.refl _, by first | rfl | trivial⟩
                  · rw [if_neg (by decide)]
                    rintro fl ρ w1 hw hcst hfn hk
                    clear hw
                    simp only [known, List.getD_cons_zero, List.getD_cons_succ, Nat.reduceAdd] at hk
                    simp only [List.getD_cons_zero, List.getD_cons_succ, Nat.reduceAdd, flowAt]
                    go_simp
                    exact ⟨Ext.refl _, by first | rfl | trivial⟩
                  · rw [if_neg (by decide)]
                    rintro fl ρ w1 hw hcst hfn hk
                    simp only [known, List.getD_cons_zero, List.getD_cons_succ, Nat.reduceAdd] at hk
                    simp only [List.getD_cons_zero, List.getD_cons_succ, Nat.reduceAdd, flowAt]
                    go_simp
                    exact ⟨Ext.refl _, by first | rfl | rw [Nat.zero_add, hu] | rw [hu]⟩
                  · rw [if_neg (by decide)]
                    rintro fl ρ w1 hw hcst hfn hk
                    clear hw
                    simp only [known, List.getD_cons_zero, List.getD_cons_succ, Nat.reduceAdd] at hk
                    simp only [List.getD_cons_zero, List.getD_cons_succ, Nat.reduceAdd, flowAt]
                    go_simp
                    exact ⟨Ext.refl _, by first | rfl | trivial⟩
                  · rw [if_neg (by decide)]
                    rintro fl ρ w1 hw hcst hfn hk
                    have c0 := hw.cell (b := g) (o := u + 2) (v := .slice ai i ci) (by first | (simp [*]; done) | (simp [*, go_sem]; done) | go_cell) (by first | exact HN1.out | exact HN2.out | exact HN3.out | exact HN4.out | exact HN5.out)
                    clear hw
                    simp only [known, List.getD_cons_zero, List.getD_cons_succ, Nat.reduceAdd] at hk
                    simp only [List.getD_cons_zero, List.getD_cons_succ, Nat.reduceAdd, flowAt]
                    go_simp
                    exact ⟨Ext.refl _, by first | rfl | trivial⟩
                  · rw [if_neg (by decide)]
                    rintro fl ρ w1 hw hcst hfn hk
                    clear hw
                    simp only [known, List.getD_cons_zero, List.getD_cons_succ, Nat.reduceAdd] at hk
                    simp only [List.getD_cons_zero, List.getD_cons_succ, Nat.reduceAdd, flowAt]
                    go_simp
                    exact ⟨Ext.refl _, by first | rfl | trivial⟩
                  · rw [if_neg (by decide)]
                    rintro fl ρ w1 hw hcst hfn hk
                    clear hw
                    simp only [known, List.getD_cons_zero, List.getD_cons_succ, Nat.reduceAdd] at hk
                    simp only [List.getD_cons_zero, List.getD_cons_succ, Nat.reduceAdd, flowAt]
                    go_simp
                    exact ⟨Ext.refl _, by first | rfl | trivial⟩
                  · rw [if_neg (by decide)]
                    rintro fl ρ w1 hw hcst hfn hk
                    clear hw
                    simp only [known, List.getD_cons_zero, List.getD_cons_succ, Nat.reduceAdd] at hk
                    simp only [List.getD_cons_zero, List.getD_cons_succ, Nat.reduceAdd, flowAt]
                    go_simp
                    exact ⟨Ext.refl _, by first | rfl | trivial⟩
                  · rw [if_neg (by decide)]
                    rintro fl ρ w1 hw hcst hfn hk
                    have c0 := hw.cell (b := w.heap.size) (o := 1) (v := .slice (some ⟨gP, 0, none⟩) LN.length cP) (by first | (simp [*]; done) | (simp [*, go_sem]; done) | go_cell) (by first | exact HN1.out | exact HN2.out | exact HN3.out | exact HN4.out | exact HN5.out)
                    clear hw
                    simp only [known, List.getD_cons_zero, List.getD_cons_succ, Nat.reduceAdd] at hk
                    simp only [List.getD_cons_zero, List.getD_cons_succ, Nat.reduceAdd, flowAt]
                    go_simp
                    exact ⟨Ext.refl _, by first | rfl | trivial⟩
                  · rw [if_neg (by decide)]
                    rintro fl ρ w1 hw hcst hfn hk
                    clear hw
                    simp only [known, List.getD_cons_zero, List.getD_cons_succ, Nat.reduceAdd] at hk
                    simp only [List.getD_cons_zero, List.getD_cons_succ, Nat.reduceAdd, flowAt]
                    go_simp
                    exact ⟨Ext.refl _, by first | rfl | trivial⟩
                  · rw [if_neg (by decide)]
                    rintro fl ρ w1 hw hcst hfn hk
                    clear hw
                    simp only [known, List.getD_cons_zero, List.getD_cons_succ, Nat.reduceAdd] at hk
                    simp only [List.getD_cons_zero, List.getD_cons_succ, Nat.reduceAdd, flowAt]
                    go_simp
                    exact ⟨Ext.refl _, by first | rfl | trivial⟩
                  · rw [if_neg (by decide)]
                    rintro fl ρ w1 hw hcst hfn hk
                    simp only [known, List.getD_cons_zero, List.getD_cons_succ, Nat.reduceAdd] at hk
                    simp only [List.getD_cons_zero, List.getD_cons_succ, Nat.reduceAdd, flowAt]
                    go_simp
                    exact ⟨Ext.refl _, by first | rfl | rw [hq]⟩
                  · rw [if_neg (by decide)]
                    rintro fl ρ w1 hw hcst hfn hk
                    clear hw
                    simp only [known, List.getD_cons_zero, List.getD_cons_succ, Nat.reduceAdd] at hk
                    simp only [List.getD_cons_zero, List.getD_cons_succ, Nat.reduceAdd, flowAt]
                    go_simp
                    exact ⟨Ext.refl _, by first | rfl | trivial⟩
                  · rw [if_neg (by decide)]
                    rintro fl ρ w1 hw hcst hfn hk
                    have c0 := hw.cell (b := bN) (o := q + 2) (v := .slice (some ⟨bx, ox, none⟩) nx0.length pc) (by first | (simp [*]; done) | (simp [*, go_sem]; done) | go_cell) (by first | exact HN1.out | exact HN2.out | exact HN3.out | exact HN4.out | exact HN5.out)
                    clear hw
                    simp only [known, List.getD_cons_zero, List.getD_cons_succ, Nat.reduceAdd] at hk
                    simp only [List.getD_cons_zero, List.getD_cons_succ, Nat.reduceAdd, flowAt]
                    go_simp
                    exact ⟨Ext.refl _, by first | rfl | trivial⟩
                  · rw [if_neg (by decide)]
                    rintro fl ρ w1 hw hcst hfn hk
                    clear hw
                    simp only [known, List.getD_cons_zero, List.getD_cons_succ, Nat.reduceAdd] at hk
                    simp only [List.getD_cons_zero, List.getD_cons_succ, Nat.reduceAdd, flowAt]
                    go_simp
                    exact ⟨Ext.refl _, by first | rfl | trivial⟩
                  · rw [if_neg (by decide)]
                    rintro fl ρ w1 hw hcst hfn hk
                    simp only [known, List.getD_cons_zero, List.getD_cons_succ, Nat.reduceAdd] at hk
                    simp only [List.getD_cons_zero, List.getD_cons_succ, Nat.reduceAdd, flowAt]
                    go_simp
                    exact ⟨Ext.refl _, by first | rfl | rw [hp1]⟩
                  · rw [if_neg (by decide)]
                    rintro fl ρ w1 hw hcst hfn hk
                    have c0 := hw.cell (b := bx) (o := p1) (v := .int .i64 (jn : Int)) (by first | (simp [*]; done) | (simp [*, go_sem]; done) | go_cell) (by first | exact HN1.out | exact HN2.out | exact HN3.out | exact HN4.out | exact HN5.out)
                    clear hw
                    simp only [known, List.getD_cons_zero, List.getD_cons_succ, Nat.reduceAdd] at hk
                    simp only [List.getD_cons_zero, List.getD_cons_succ, Nat.reduceAdd, flowAt]
                    go_simp
                    exact ⟨Ext.refl _, by first | rfl | trivial⟩
                  · rw [if_neg (by decide)]
                    rintro fl ρ w1 hw hcst hfn hk
                    simp only [known, List.getD_cons_zero, List.getD_cons_succ, Nat.reduceAdd] at hk
                    simp only [List.getD_cons_zero, List.getD_cons_succ, Nat.reduceAdd, flowAt]
                    go_simp
                    (rw [if_pos (by omega)]; exact ⟨Ext.refl _, rfl⟩)
                  · rw [if_neg (by decide)]
                    rintro fl ρ w1 hw hcst hfn hk
                    have c0 := hw.cell (b := gP) (o := jn) (v := .int .i64 (I : Int)) (by first | (simp [*]; done) | (simp [*, go_sem]; done) | go_cell) (by first | exact HN1.out | exact HN2.out | exact HN3.out | exact HN4.out | exact HN5.out)
                    clear hw
                    simp only [known, List.getD_cons_zero, List.getD_cons_succ, Nat.reduceAdd] at hk
                    simp only [List.getD_cons_zero, List.getD_cons_succ, Nat.reduceAdd, flowAt]
                    go_simp
                    exact ⟨Ext.refl _, by first | rfl | trivial⟩
                  · rw [if_neg (by decide)]
                    rintro fl ρ w1 hw hcst hfn hk
                    simp only [known, List.getD_cons_zero, List.getD_cons_succ, Nat.reduceAdd] at hk
                    simp only [List.getD_cons_zero, List.getD_cons_succ, Nat.reduceAdd, flowAt]
                    go_simp
                    exact ⟨(Ext.refl _).alloc _, fun _ => ⟨w1.heap.size, rfl, rd_of_new rfl [.int .i64 (I : Int)] _⟩⟩
                  · rw [if_pos (by decide)]
                    rintro ρ w1 hw hcst hfn hk
                    simp only [known, List.getD_cons_zero, List.getD_cons_succ, Nat.reduceAdd] at hk
                    simp only [List.getD_cons_zero, List.getD_cons_succ, Nat.reduceAdd]
                    (obtain ⟨g, e1, e2⟩ := hk.2.1 (by trivial); exact invAt_appendO (.tmp 66) (.tmp 81) 90 rfl El_int64 hk.1 e1 [.int .i64 (I : Int)] e2 rfl (by omega) (by simp [Value.oneCell']) (HEX.out _ hw) HSH.out (by have := hw.size; have h0 : wr.drew.heap.size = wr.heap.size := rfl; omega) (by unfold maxLen; omega) (by omega) (fun g' c' w' ho hc hs => ⟨hc, by trivial, g', c', rfl, ho, hs.imp id (fun q => Nat.le_trans hw.size q)⟩))
                intro vs w1 hw hf
                simp only [flowFacts, Nat.reduceAdd] at hf
                obtain ⟨e0, e1, e2, e3, e4, e5, e6, e7, e8, e9, e10, e11, e12, e13, e14, e15, e16, e17, e18, e19, e20, e21, e22, e23, e24, e25, e26, e27, e28, -⟩ := hf
                simp only [List.take_succ_cons, List.take_zero, List.drop_succ_cons, List.drop_zero, putAll, Act.put, Nat.reduceAdd, List.setIfInBounds_toArray, List.set_cons_zero, List.set_cons_succ, e0, e1, e2, e3, e4, e5, e6, e7, e8, e9, e10, e11, e12, e13, e14, e15, e16, e17, e18, e19, e20, e21, e22, e23, e24, e25, e26, e27]
                clear e0 e1 e2 e3 e4 e5 e6 e7 e8 e9 e10 e11 e12 e13 e14 e15 e16 e17 e18 e19 e20 e21 e22 e23 e24 e25 e26 e27
                obtain ⟨-, g8, c8, hg8, ho8, hs8⟩ := e28
                rw [hg8]
                have hc8 : Ch (fun b => blkA ai = some b) wr w1 := (Ch.of_ext _ (Ext.refl wr).drew).trans hw
                have hs9 : blkA (ndAt L a0).a = some g8 ∨ wr.heap.size ≤ g8 := by rw [HPP.out]; exact hs8
                have hgrow := HNK.out.grow (w1 := w1) (i := a0) (g8 := g8) (n := i + 1) (p := ⟨⟨fin, lt, nxi ++ [(I : Int)]⟩, some ⟨g8, 0, none⟩, c8⟩) hal (by rw [HPP.out]) (by rw [HPP.out]) (by rw [HPP.out]; exact hc8) rfl (by rw [List.length_append, HNL2.out]; rfl) (by omega) (by rw [intsV_add]; exact ho8) hs9 (fun b hb => by omega)
                rw [HPP.out] at hgrow
                simp only [hu] at hgrow
                obtain ⟨W3, hW3⟩ : ∃ W, w1.setCell ⟨g, u + 2, none⟩ (.slice (some ⟨g8, 0, none⟩) (i + 1) c8) = W := ⟨_, rfl⟩
                rw [hW3] at hgrow
                have HNK9 := hid hgrow.1
                have HCH9 := hid hgrow.2
                replace y2 := hc8.cell y2 HN2.out
                have yf2 : w1.frozen? ⟨g, u + 2, none⟩ = false := by
                  rw [← yf]
                  have := hc8.block g hgs HN2.out
                  simp only [World.frozen?, this]
                clear hgrow hs9 hs8 ho8 hg8 hc8 hw y0 y1 yf r0 r1 r2 x0 x1 x2 hcj hpj
                go_wp2_with fail
                try rw [hW3]
                clear hW3
                go_roundw
                case rel =>
                  refine ⟨i + 1, L.set a0 ⟨⟨fin, lt, nxi ++ [(I : Int)]⟩, some ⟨g8, 0, none⟩, c8⟩, by go_num, by omega, hid (HBX.out.ch HCH9.out (fun e => ?_)), hid (HCH9.out.own HPL.out (fun p e f => ?_)), HNK9, hid ?_, hid (HBW.out.trans (HCH9.out.below (by omega) (fun b e => ?_)))⟩
                  · rcases e with e | e
                    · exact hgr e.symm
                    · exact HN1.out e
                  · simp only [Option.some.injEq] at e
                    subst e
                    rcases f with f | f
                    · exact hgg f.symm
                    · exact HN5.out f
                  · rw [ndsOf_set, HFI.out, List.set_set, HNUM2.out]
                  · rcases e with rfl | e
                    · exact hgB
                    · have := HGE.out b e
                      omega
                case measure => simp [intOf]; omega
              · obtain rfl : i = nx0.length := by omega
                go_wp2_with fail
                go_roundw
                case rel => exact ⟨k + 1, L, by go_num, by omega, HBX, HPL, HNK, hid (by
                  have h2 := numI_all (ndsOf LN) o k
                  rw [HGN.out] at h2
                  rw [HFI.out, ← HA0.out, h2, fillN_next HF1.out HKO.out]), HBW⟩
                case measure => simp [intOf]; omega
          · rw [plc_neg hko] at hpc
            have HSK := hid (fillN_skip (N := ndsOf LN) hko)
            clear hko
            go_wp2_with fail
            go_roundw
            case rel => exact ⟨k + 1, L, by go_num, by omega, HBX, HPL, HNK, hid (by rw [HSK.out]; exact HFI.out), HBW⟩
            case measure => simp [intOf]; omega
        · obtain rfl : k = LN.length := by omega
          have hol : o.length = L.length := by rw [← ndsOf_length L, HFI.out, fillN_len]
          rw [hol] at r2
          go_wp2_with fail
          go_returns
          refine ⟨g, cq, L, ?_, by rfl, fun K w'' k hk => HNK.out.far hgB k hk, Ext.of HBW.out⟩
          rw [HNB.out, HFI.out, fillN_all (fun x hx => by have := HF2.out x hx; omega)]
end Go.Proofs.YtabljchbchjjcaaGreatDoor
