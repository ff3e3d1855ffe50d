/- Numbering by the program: the closure that visits a node. Conditions: at most 200000 nodes, each of at most 100000 edges. -/
import Derived.Test.YtlnccdbmchjhlaaDoorCh06e
import Derived.Test.YtlnccdbmchjhlaaDoorFlowM
import Derived.Test.YtlnccdbmchjhlaaDoorCh06d
import Derived.Test.YtlnccdbmchjhlaaDoorMg7
import Derived.Test.YtlnccdbmchjhlaaDoorDgM
namespace Go.Proofs.YtlnccdbmchjhlaaDoor
set_option linter.unusedVariables false
set_option linter.unusedSimpArgs false
open Go Go.RowKit
/-- The nodes that a maker holds, to be read: its block, its list, the nodes' own lists. -/
structure MkRd (w : World) (mk : Nat) (aN : Option Addr) (cN : Nat) (LN : List NdP) : Prop where
  cell : w.cell? ⟨mk, 0, none⟩ = some (.slice aN LN.length cN)
  row : Rd w aN (ndsV LN)
  nx : ∀ p ∈ LN, Rd w p.a (intsV p.nd.nx)
abbrev nvisV (nb db mb vb : Nat) : Value := .func (.func 48) #[] #[.pointer (some ⟨nb, 0, none⟩), .pointer (some ⟨db, 0, none⟩), .pointer (some ⟨mb, 0, none⟩), .pointer (some ⟨vb, 0, none⟩)]
theorem intK6 : Maps.Keyed Tryd.prog 2 := Maps.int_keyed Tryd.underlying2
/-- The boxes that the closure has. -/
structure NBox (w : World) (nb nm mb mk vb db : Nat) : Prop where
  n : w.cell? ⟨nb, 0, none⟩ = some (.map (some nm))
  m : w.cell? ⟨mb, 0, none⟩ = some (.pointer (some ⟨mk, 0, none⟩))
  v : w.cell? ⟨vb, 0, none⟩ = some (nvisV nb db mb vb)
theorem NBox.ch {w w' : World} {nb nm mb mk vb db : Nat} {K : Nat → Prop} (h : NBox w nb nm mb mk vb db) (k : Ch K w w') (h1 : ¬ K nb) (h2 : ¬ K mb) (h3 : ¬ K vb) : NBox w' nb nm mb mk vb db := ⟨k.cell h.n h1, k.cell h.m h2, k.cell h.v h3⟩
abbrev MkD (w : World) (B db nm : Nat) (A : Nat → Prop) (aq : Option Addr) (c : Nat) (L : List NdP) : Prop := Mk w B db nm 28 [] A aq c L
theorem ndG_of (L : List NdP) (k : Nat) : ndG (ndsOf L) k = (ndAt L k).nd := by
  unfold ndG ndAt ndsOf
  rw [List.getD_eq_getElem?_getD, List.getD_eq_getElem?_getD, List.getElem?_map]
  cases L[k]? <;> rfl
theorem ApartL.bare {L : List NdP} (h : ApartL L) (p : NdP) (hp : p.nd.nx.length = 0) : ApartL (L ++ [p]) := by
  unfold ApartL
  rw [List.pairwise_append]
  refine ⟨h, List.pairwise_singleton _ _, fun a _ b hb => ?_⟩
  rw [List.mem_singleton] at hb
  subst hb
  intro _ h2
  omega
theorem ApartL.put {L M : List NdP} {p q : NdP} (h : ApartL (L ++ [p] ++ M)) (hq : 0 < q.nd.nx.length → ∀ y, q.a = some y → ∀ x ∈ L ++ [p] ++ M, 0 < x.nd.nx.length → ∀ z, x.a = some z → z.block ≠ y.block) : ApartL (L ++ [q] ++ M) := by
  unfold ApartL at *
  rw [List.append_assoc, List.pairwise_append] at h ⊢
  obtain ⟨h1, h2, h3⟩ := h
  rw [List.singleton_append, List.pairwise_cons] at h2 ⊢
  refine ⟨h1, ⟨fun b hb k1 k2 x y e1 e2 => fun e => ?_, h2.2⟩, fun a ha b hb => ?_⟩
  · exact hq k1 x e1 b (by simp [hb]) k2 y e2 e.symm
  · rcases List.mem_cons.1 (by simpa using hb) with rfl | hb
    · intro k1 k2 x y e1 e2
      exact hq k2 y e2 a (by simp [ha]) k1 x e1
    · exact h3 a ha b (by simp [hb])
theorem Mst.thenOwn {w w1 w' : World} {m mp : Nat} {aq aq' : Option Addr} {K : Nat → Prop} (h : Mst w w1 m mp aq aq') (k : Ch K w1 w') (hK : ∀ b, K b → w.heap.size ≤ b) : Mst w w' m mp aq aq' :=
  ⟨h.ch.next k (fun b hb e => absurd hb (by have := hK b e; omega)), h.sep⟩
/-- The lists lie in blocks from B on, and may be written. -/
def NxO (B : Nat) (w : World) (L : List NdP) : Prop := ∀ p ∈ L, InR B w.heap.size w p.a (intsV p.nd.nx)
theorem Mk.nxo {w w' : World} {B B' m mp : Nat} {T : TypeId} {vs : List Value} {A K : Nat → Prop} {aq : Option Addr} {c : Nat} {L : List NdP} (h : Mk w B m mp T vs A aq c L) (x : NxO B' w L) (k : Ch K w w') (hk : ∀ b, K b → Kq m mp aq b ∨ A b) : NxO B' w' L := fun p hp =>
  (k.inR (x p hp) (fun hn q e hK => by
    obtain ⟨h1, h2, h3, h4, h5⟩ := h.ap p hp (by rw [ints_len] at hn; exact hn) q e
    rcases hk _ hK with (r | r | r) | r
    · exact h2 r
    · exact h3 r
    · exact h5 r
    · exact h4 r)).up k.size
/-- What a visit is to do. -/
def VisC (B nb db nm mb mk vb : Nat) (aN : Option Addr) (cN : Nat) (LN : List NdP) (f : Nat) : Prop := ∀ (k : Nat) (o : List Nat) (A : Nat → Prop) (aq : Option Addr) (c : Nat) (L : List NdP) (w : World),
  k < f → k < LN.length → o.Nodup → (∀ x ∈ o, x < LN.length) → MkD w B db nm A aq c L → L.length = o.length → NumOk nm w o → ApartL L → NxO B w L → NBox w nb nm mb mk vb db → A nb → A mb → A vb → (∀ b, A b → b < w.heap.size) → B ≤ w.heap.size →
  (∀ w', Below B w w' → MkRd w' mk aN cN LN) →
  Calls Tryd.prog 48 #[.int .i64 (k : Int), .pointer (some ⟨nb, 0, none⟩), .pointer (some ⟨db, 0, none⟩), .pointer (some ⟨mb, 0, none⟩), .pointer (some ⟨vb, 0, none⟩)] w fun e w' =>
    e = .returned (.int .i64 ((dfs (ndsOf LN) f o k).idxOf k : Nat)) ∧ ∃ aq' c' M, MkD w' B db nm A aq' c' (L ++ M) ∧ ndsOf M = metN (ndsOf LN) o (dfs (ndsOf LN) f o k) ∧ NumOk nm w' (dfs (ndsOf LN) f o k) ∧ ApartL (L ++ M) ∧ NxO B w' (L ++ M) ∧ Mst w w' db nm aq aq'
set_option maxRecDepth 100000 in
set_option maxHeartbeats 8000000 in
theorem nvisit_old (B nb db nm mb mk vb : Nat) (hnm : nm ≠ db) (aN : Option Addr) (cN : Nat) (LN : List NdP) (f : Nat) (k : Nat) (o : List Nat) (A : Nat → Prop) (aq : Option Addr) (c : Nat) (L : List NdP) (w : World)
    (hlen : LN.length ≤ 200000) (hk : k < LN.length) (hko : k ∈ o) (hM : MkD w B db nm A aq c L) (hl : L.length = o.length) (hN : NumOk nm w o) (hap : ApartL L) (hno : NxO B w L) (hX : NBox w nb nm mb mk vb db) :
    Calls Tryd.prog 48 #[.int .i64 (k : Int), .pointer (some ⟨nb, 0, none⟩), .pointer (some ⟨db, 0, none⟩), .pointer (some ⟨mb, 0, none⟩), .pointer (some ⟨vb, 0, none⟩)] w fun e w' =>
      e = .returned (.int .i64 ((dfs (ndsOf LN) (f + 1) o k).idxOf k : Nat)) ∧ ∃ aq' c' M, MkD w' B db nm A aq' c' (L ++ M) ∧ ndsOf M = metN (ndsOf LN) o (dfs (ndsOf LN) (f + 1) o k) ∧ NumOk nm w' (dfs (ndsOf LN) (f + 1) o k) ∧ ApartL (L ++ M) ∧ NxO B w' (L ++ M) ∧ Mst w w' db nm aq aq' := by
  have hd : dfs (ndsOf LN) (f + 1) o k = o := by rw [dfs, if_pos hko]
  rw [hd]
  have HNO := hid hN
  obtain ⟨n, D, hn, hown, hkm⟩ := hN
  have HOWN := hid hown
  obtain ⟨hhas, hat⟩ := hkm.2 k
  have HHAS : Hid (Maps.has D (.int .i64 (k : Int)) = true) := hid (by rw [hhas]; exact decide_eq_true hko)
  have HAT := hid (hat hko)
  have hkey := Maps.keyOf_int_mk (P := Tryd.prog) (k := 2) Tryd.underlying2 (wfN k (by omega))
  have b0 := hX.n
  have HM := hid hM
  have HAP := hid hap
  clear hM hl hX hd hap hhas hat hown hn hkm hko
  go_enter Tryd.func48, Tryd.ntmps48
  go_wp2_with (at_lookup; refine wpList_lookup_own_ok_int _ rfl _ _ 74 rfl 2 2 .i64 intK6 Tryd.underlying74 Tryd.underlying2 (Tryd.zeroValue2 _) nm n D rfl HOWN.out _ _ rfl hkey ?_; intro z hz hzw; rw [HHAS.out]; have HZ : Hid (z = (o.idxOf k : Int)) := hid (by have h := hz.symm.trans HAT.out; injection h with h; injection h); clear hz hzw)
  go_returns
  refine ⟨by rw [HZ.out]; rfl, aq, c, [], by rw [List.append_nil]; exact HM.out, by rw [metN_self]; rfl, HNO.out, by rw [List.append_nil]; exact HAP.out, by rw [List.append_nil]; exact hno, Mst.refl _ _ _ _⟩
set_option maxRecDepth 100000 in
set_option maxHeartbeats 8000000 in
theorem nvisit_new (B nb db nm mb mk vb : Nat) (hnm : nm ≠ db) (aN : Option Addr) (cN : Nat) (LN : List NdP) (f : Nat) (ih : VisC B nb db nm mb mk vb aN cN LN f) (hlen : LN.length ≤ 200000) (hDn : Dn (ndsOf LN)) (hnx : ∀ p ∈ LN, p.nd.nx.length ≤ 100000)
    (k : Nat) (u : List Nat) (A : Nat → Prop) (aq : Option Addr) (c : Nat) (L : List NdP) (w : World)
    (hk : k < LN.length) (hkf : k ≤ f) (hko : k ∉ u) (hu1 : u.Nodup) (hu2 : ∀ x ∈ u, x < LN.length) (hM : MkD w B db nm A aq c L) (hl : L.length = u.length) (hN : NumOk nm w u) (hap : ApartL L) (hno : NxO B w L) (hX : NBox w nb nm mb mk vb db) (hA1 : A nb) (hA2 : A mb) (hA3 : A vb) (hA : ∀ b, A b → b < w.heap.size) (hB : B ≤ w.heap.size) (hR : ∀ w', Below B w w' → MkRd w' mk aN cN LN) :
    Calls Tryd.prog 48 #[.int .i64 (k : Int), .pointer (some ⟨nb, 0, none⟩), .pointer (some ⟨db, 0, none⟩), .pointer (some ⟨mb, 0, none⟩), .pointer (some ⟨vb, 0, none⟩)] w fun e w' =>
      e = .returned (.int .i64 ((dfs (ndsOf LN) (f + 1) u k).idxOf k : Nat)) ∧ ∃ aq' c' M, MkD w' B db nm A aq' c' (L ++ M) ∧ ndsOf M = metN (ndsOf LN) u (dfs (ndsOf LN) (f + 1) u k) ∧ NumOk nm w' (dfs (ndsOf LN) (f + 1) u k) ∧ ApartL (L ++ M) ∧ NxO B w' (L ++ M) ∧ Mst w w' db nm aq aq' := by
  have hul : u.length ≤ LN.length := nodup_len hu1 hu2
  obtain ⟨n, D, hn, hown, hkm⟩ := hN
  have HOWN := hid hown
  obtain ⟨hhas, hat⟩ := hkm.2 k
  have HHAS : Hid (Maps.has D (.int .i64 (k : Int)) = false) := hid (by rw [hhas]; exact decide_eq_false hko)
  have HPUT := hid (hkm.put hko)
  rw [← hl] at HPUT
  have HNL : Hid (n ≤ L.length) := hid (by omega)
  have HUL : Hid (L.length = u.length) := hid hl
  have hkey := Maps.keyOf_int_mk (P := Tryd.prog) (k := 2) Tryd.underlying2 (wfN k (by omega))
  have hLs : L.length ≤ 200000 := by omega
  have b0 := hX.n
  have d0 := hM.bx.cell (i := 0) rfl
  have HM := hid hM
  have HAP := hid hap
  have HX := hid hX
  have HA := hid hA
  have HR := hid hR
  have HIH := hid ih
  obtain ⟨bN, oN, rfl, -⟩ := (hR w (Below.refl _ _)).row.nds (by omega)
  obtain ⟨q, hq⟩ : ∃ q, oN + k * 3 = q := ⟨_, rfl⟩
  obtain ⟨p0, hp0⟩ : ∃ p, ndAt LN k = p := ⟨_, rfl⟩
  obtain ⟨⟨fin, lt, nx0⟩, pa, pc⟩ := p0
  have HP0 := hid hp0
  have HC2 : Hid (∀ w', Ch (fun b => b = nm) w w' → w'.cell? ⟨mb, 0, none⟩ = some (.pointer (some ⟨mk, 0, none⟩)) ∧ w'.cell? ⟨mk, 0, none⟩ = some (.slice (some ⟨bN, oN, none⟩) LN.length cN) ∧ w'.cell? ⟨bN, q, none⟩ = some (.bool fin) ∧ w'.cell? ⟨bN, q + 1, none⟩ = some (.string lt) ∧ w'.cell? ⟨bN, q + 2, none⟩ = some (.slice pa nx0.length pc) ∧ w'.cell? ⟨db, 0, none⟩ = some (.slice aq L.length c) ∧ (∀ j, w'.frozen? ⟨db, j, none⟩ = false)) := hid (by
    intro w' hc
    have hb : Below B w w' := hc.below hB (fun b e => by rw [e]; exact hM.lo.2)
    obtain ⟨b9, o9, e9, hcl⟩ := (hR w' hb).row.nds (by omega)
    simp only [Option.some.injEq, Addr.mk.injEq, and_true] at e9
    obtain ⟨rfl, rfl⟩ := e9
    obtain ⟨x0, x1, x2⟩ := hcl k hk
    rw [hp0, hq] at x0 x1 x2
    simp only at x0 x1 x2
    have hbx := hM.bx.ch hc (fun e => hnm e.symm)
    exact ⟨hc.cell hX.m (fun e => hM.am.2 (e ▸ hA2)), (hR w' hb).cell, x0, x1, x2, hbx.cell (i := 0) rfl, hbx.free⟩)
  have hgN : ndG (ndsOf LN) k = ⟨fin, lt, nx0⟩ := by rw [ndG_of, hp0]
  have hkN : k < (ndsOf LN).length := by rw [ndsOf_length]; exact hk
  have huN : ∀ x ∈ u, x < (ndsOf LN).length := by rw [ndsOf_length]; exact hu2
  have hx0 : nxs (ndsOf LN) k = nx0.map Int.toNat := by unfold nxs; rw [hgN]
  have HORD := hid (fun i => ordI_ok hDn hkN hkf hko hu1 huN i)
  have HCHD : Hid (∀ i (h : i < nx0.length), 0 ≤ nx0[i] ∧ nx0[i] < (k : Int)) := hid (fun i h => (hDn k hkN).2 _ (by rw [hgN]; exact List.getElem_mem h))
  have HOS : Hid (∀ i (h : i < nx0.length), ordI (ndsOf LN) f u k (i + 1) = dfs (ndsOf LN) f (ordI (ndsOf LN) f u k i) (nx0[i]).toNat) := hid (fun i h => by
    have h2 : i < (nxs (ndsOf LN) k).length := by rw [hx0]; simpa using h
    rw [ordI_succ h2]
    simp [hx0])
  have HNS : Hid (∀ i (h : i < nx0.length), nxI (ndsOf LN) f u k (i + 1) = nxI (ndsOf LN) f u k i ++ [((ordI (ndsOf LN) f u k (i + 1)).idxOf (nx0[i]).toNat : Int)]) := hid (fun i h => by
    have h2 := nxI_succ hDn hkN hkf hko hu1 huN (i := i) (by rw [hgN]; exact h)
    simp only [hgN] at h2
    exact h2)
  have HMS : Hid (∀ i, i < nx0.length → metN (ndsOf LN) (u ++ [k]) (ordI (ndsOf LN) f u k (i + 1)) = metN (ndsOf LN) (u ++ [k]) (ordI (ndsOf LN) f u k i) ++ metN (ndsOf LN) (ordI (ndsOf LN) f u k i) (ordI (ndsOf LN) f u k (i + 1))) := hid (fun i h => metI_succ hDn hkN hkf hko hu1 huN (by rw [hx0, List.length_map]; exact h))
  have HOA : Hid (ordI (ndsOf LN) f u k nx0.length = dfs (ndsOf LN) (f + 1) u k) := hid (by
    have h2 := ordI_all (N := ndsOf LN) (f := f) hko
    rw [hx0, List.length_map] at h2
    exact h2)
  have HNA : Hid (numN (ndsOf LN) (dfs (ndsOf LN) (f + 1) u k) k = ⟨fin, lt, nxI (ndsOf LN) f u k nx0.length⟩) := hid (by
    have h2 := nxI_all (N := ndsOf LN) (f := f) hko
    simp only [hgN] at h2
    rw [h2]
    unfold numN
    rw [hgN])
  have HLN := hid hnx
  have hnl : nx0.length ≤ 100000 := by
    have h2 := hnx _ (ndAt_mem LN k hk)
    rw [hp0] at h2
    exact h2
  have HPM : Hid (⟨⟨fin, lt, nx0⟩, pa, pc⟩ ∈ LN) := hid (by rw [← hp0]; exact ndAt_mem LN k hk)
  have HIDX : Hid (∀ o, u ++ [k] <+: o → o.idxOf k = L.length) := hid (fun o h => by rw [idxOf_pre h (by simp), idxOf_new hko, hl])
  have HKLO := hid hM.klo
  clear hM hl hX hap hhas hat hown hn hkm hA hR ih hp0 hgN hx0
  go_enter Tryd.func48, Tryd.ntmps48
  have HMX : Hid (∀ w2 w', Ch (fun b => b = nm) w w2 → Ext w2 w' → MkD w' B db nm A aq c L) := hid (fun w2 w' h1 h2 => (HM.out.chMp h1 hnm).ext h2)
  have HSH := hid HM.out.sh
  have HNB : Hid (∀ w2 : World, w.heap.size ≤ w2.heap.size → ¬ blkA aq = some w2.heap.size) := hid (fun w2 h e => by
    cases aq with
    | none => simp [blkA] at e
    | some p =>
      have := (HM.out.aqm p rfl).1
      have e2 : p.block = w2.heap.size := by simpa [blkA] using e
      omega)
  go_wp2_with (first
    | (at_builtin; refine wpList_appendO rfl _ _ 26 rfl El_nd rfl rfl [.bool fin, .string lt, .slice none 0 0] (rd_of_new (by simp) _ _) rfl (by omega) (by simp [Value.oneCell']) (HMX.out w2 _ HG2.out (((Ext.refl _).alloc _).alloc _)).own HSH.out (by simp; omega) (by unfold maxLen; omega) (by omega) ?_; intro g8 c8 w8 ho8 hc8 hs8; have HO8 := hid ho8; have HC8 := hid hc8; have HS8 := hid hs8; have hbx8 := (HMX.out w2 _ HG2.out (((Ext.refl _).alloc (.cells #[.bool fin, .string lt, .slice pa nx0.length pc] 65)).alloc (.cells #[.bool fin, .string lt, .slice none 0 0] 65))).bx.ch hc8 HM.out.nrow.1; have e0 := hbx8.cell (i := 0) rfl; have ef := hbx8.free 0; have g0 := hc8.cell (b := w2.heap.size) (o := 0) (v := .bool fin) (by simp) (HNB.out w2 hs2); have g1 := hc8.cell (b := w2.heap.size) (o := 1) (v := .string lt) (by simp) (HNB.out w2 hs2); have g2 := hc8.cell (b := w2.heap.size) (o := 2) (v := .slice pa nx0.length pc) (by simp) (HNB.out w2 hs2); have hgl := World.block_lt_of_cell? _ _ g0; have hdl := World.block_lt_of_cell? _ _ e0; clear hbx8 ho8 hc8 hs8)
    | (at_mapUpdate; refine wpList_mapUpdate_own _ rfl _ _ _ 74 rfl 2 2 intK6 Tryd.underlying74 (plainElem (H := Unit) Tryd.prog 2) nm n D rfl HOWN.out (by unfold maxLen; have := HNL.out; omega) _ _ _ rfl rfl hkey _ [] (plainElem_int Tryd.underlying2 (wfN L.length (by omega))) ?_; intro w2 hown2 hgrow2; have HO2 := hid hown2; have HG2 := hid ((Ch.grown hgrow2).mono (J := fun b => b = nm) (fun b _ q => by simpa using q.symm)); obtain ⟨m0, m1, m2, m3, m4, m5, m6⟩ := HC2.out w2 HG2.out; have hdb2 := World.block_lt_of_cell? _ _ m5; have hs2 := HG2.out.size; clear hown2 hgrow2)
    | (at_lookup; refine wpList_lookup_own_ok_int _ rfl _ _ 74 rfl 2 2 .i64 intK6 Tryd.underlying74 Tryd.underlying2 (Tryd.zeroValue2 _) nm n D rfl HOWN.out _ _ rfl hkey ?_; intro z hz hzw; rw [HHAS.out]; clear hz hzw))
  have hX2 : Ext w2 ((w2.alloc (.cells #[.bool fin, .string lt, .slice pa nx0.length pc] 65)).alloc (.cells #[.bool fin, .string lt, .slice none 0 0] 65)) := ((Ext.refl _).alloc _).alloc _
  have hPS := Mk.push (A := fun b => A b ∨ b = w2.heap.size) (w1 := w8) (((HMX.out w2 w2 HG2.out (Ext.refl _)).also (fun b h => h.imp id (fun e => Nat.le_of_eq e.symm))).ext hX2) ⟨⟨fin, lt, []⟩, none, 0⟩ (Rd.nil _ _) (fun h => absurd h (by simp)) (fun b h => by
    have := hX2.size
    rcases h with h | h
    · have := HA.out b h; omega
    · subst h; simp; omega) HO8.out HC8.out HS8.out
  have HPS := hid hPS
  have HST0 : Hid (Mst w (w8.setCell ⟨db, 0, none⟩ (.slice (some ⟨g8, 0, none⟩) (L.length + 1) c8)) db nm aq (some ⟨g8, 0, none⟩)) := hid ((⟨HG2.out.mono (fun b _ e => .inr (.inl e)), fun b h => .inl h⟩ : Mst w w2 db nm aq aq).trans ((Mst.of_ext hX2 db nm aq).trans hPS.2))
  have HNU : Hid (NumOk nm (w8.setCell ⟨db, 0, none⟩ (.slice (some ⟨g8, 0, none⟩) (L.length + 1) c8)) (u ++ [k])) := hid (by
    have h0 : NumOk nm w2 (u ++ [k]) := ⟨n + 1, _, by rw [List.length_append]; have := HNL.out; have := HUL.out; simp; omega, HO2.out, HPUT.out⟩
    exact ((h0.ext hX2).ch HC8.out HM.out.nrow.2).ch (Ch.set _ _ _ _) hnm)
  have hsz9 : w2.heap.size < w8.heap.size := hgl
  have HXB : Hid (NBox (w8.setCell ⟨db, 0, none⟩ (.slice (some ⟨g8, 0, none⟩) (L.length + 1) c8)) nb nm mb mk vb db) := hid (HX.out.ch HST0.out.ch (fun h => (HM.out.klt _ h).2 hA1) (fun h => (HM.out.klt _ h).2 hA2) (fun h => (HM.out.klt _ h).2 hA3))
  have HBX0 : Hid (Bx w8 w2.heap.size 65 [.bool fin, .string lt, .slice pa nx0.length pc]) := hid (((Bx.new w2 _ _).ext ((Ext.refl _).alloc _)).ch HC8.out (HNB.out w2 hs2))
  go_loopw [11, 13, 49] (fun nxv v13 v49 wr => ∃ (i g cg : Nat) (aq1 : Option Addr) (cM : Nat) (M : List NdP), v49 = .int .i64 (i : Int) ∧ i ≤ nx0.length ∧ nxv = .slice (some ⟨g, 0, none⟩) i cg ∧ Hid (Own wr (w2.heap.size + 1) 2 1 (some ⟨g, 0, none⟩) i cg (intsV (nxI (ndsOf LN) f u k i))) ∧ w2.heap.size < g ∧ g < wr.heap.size ∧
      Hid (MkD wr B db nm (Aq A w2.heap.size (some ⟨g, 0, none⟩)) aq1 cM (L ++ [⟨⟨fin, lt, []⟩, none, 0⟩] ++ M)) ∧ Hid (ndsOf M = metN (ndsOf LN) (u ++ [k]) (ordI (ndsOf LN) f u k i)) ∧ Hid (NumOk nm wr (ordI (ndsOf LN) f u k i)) ∧ Hid (ApartL (L ++ [⟨⟨fin, lt, []⟩, none, 0⟩] ++ M)) ∧ Hid (NxO B wr (L ++ [⟨⟨fin, lt, []⟩, none, 0⟩] ++ M)) ∧ Hid (Mst w wr db nm aq aq1) ∧ Hid (Bx wr w2.heap.size 65 [.bool fin, .string lt, .slice pa nx0.length pc]) ∧ Hid (NBox wr nb nm mb mk vb db)) (fun _ _ v49 _ => nx0.length - (intOf v49).toNat)
  case atStart =>
    have hxx : Ext (w8.setCell ⟨db, 0, none⟩ (.slice (some ⟨g8, 0, none⟩) (L.length + 1) c8)) ((w8.setCell ⟨db, 0, none⟩ (.slice (some ⟨g8, 0, none⟩) (L.length + 1) c8)).alloc (.cells #[] 2)) := (Ext.refl _).alloc _
    have hsw : (w8.setCell ⟨db, 0, none⟩ (.slice (some ⟨g8, 0, none⟩) (L.length + 1) c8)).heap.size = w8.heap.size := by simp
    refine ⟨0, w8.heap.size, 0, some ⟨g8, 0, none⟩, c8, [], rfl, by omega, by simp, hid (Own.empty _ _ _ _ _), hgl, by simp, hid ?_, hid ?_, hid ?_, hid ?_, hid ?_, hid (HST0.out.trans (Mst.of_ext hxx db nm _)), hid ?_, hid (HXB.out.ch (Ch.of_ext (fun _ => False) hxx) (by simp) (by simp) (by simp))⟩
    · rw [List.append_nil]
      refine (HPS.out.1.also (fun b h => ?_)).ext hxx
      rcases h with h | h | h
      · exact .inl (.inl h)
      · exact .inl (.inr h)
      · refine .inr ?_
        have e : w8.heap.size = b := by simpa [blkA] using h
        omega
    · rw [ordI_zero, metN_self]; rfl
    · rw [ordI_zero]; exact HNU.out.ext hxx
    · rw [List.append_nil]; exact HAP.out.bare _ rfl
    · rw [List.append_nil]
      intro p hp
      rcases List.mem_append.1 hp with hp | hp
      · exact HM.out.nxo hno (HST0.out.ch.thenExt hxx) (fun b h => .inl h) p hp
      · rw [List.mem_singleton] at hp
        subst hp
        exact .inl rfl
    · exact ((HBX0.out.ch (Ch.set w8 db 0 (.slice (some ⟨g8, 0, none⟩) (L.length + 1) c8)) (fun e => by have h := HM.out.bx.lt; have h2 := HG2.out.size; omega))).ext hxx
  case round =>
    clear e0 ef g0 g1 g2 m0 m1 m2 m3 m4 m5 m6
    obtain ⟨i, g, cg, aq1, cM, M, rfl, hi, rfl, HOW, hg1, hg2, HMK, HND, HNM, HAPM, HNO, HSTM, HBX, HXM⟩ := hrel
    by_cases hil : i < nx0.length
    · have HBW := hid (HSTM.out.ch.below hB HKLO.out)
      obtain ⟨bx, ox, rfl, hcx⟩ := ((HR.out wr HBW.out).nx _ HPM.out).int (show 0 < nx0.length by omega)
      have hcj : wr.cell? ⟨bx, ox + i, none⟩ = some (.int .i64 nx0[i]) := hcx i hil
      clear hcx
      obtain ⟨hj0, hjk⟩ := HCHD.out i hil
      obtain ⟨jn, hjn⟩ : ∃ jn : Nat, nx0[i] = (jn : Int) := ⟨(nx0[i]).toNat, (Int.toNat_of_nonneg hj0).symm⟩
      have hos := HOS.out i hil
      have hns := HNS.out i hil
      rw [hjn] at hcj hj0 hjk hos hns
      rw [Int.toNat_natCast] at hos hns
      obtain ⟨o1, o2, o3, o4, o5⟩ := HORD.out i
      have hv := HXM.out.v
      have hlM : (L ++ [(⟨⟨fin, lt, []⟩, none, 0⟩ : NdP)] ++ M).length = (ordI (ndsOf LN) f u k i).length := by
        have h1 := metN_len (N := ndsOf LN) o5
        rw [← HND.out, ndsOf_length, List.length_append] at h1
        rw [List.length_append, List.length_append, HUL.out]
        simp at h1 ⊢
        omega
      have HCALL : Hid (∀ w', Ext wr w' → Calls Tryd.prog 48 #[.int .i64 (jn : Int), .pointer (some ⟨nb, 0, none⟩), .pointer (some ⟨db, 0, none⟩), .pointer (some ⟨mb, 0, none⟩), .pointer (some ⟨vb, 0, none⟩)] w' fun e w'' =>
          e = .returned (.int .i64 ((ordI (ndsOf LN) f u k (i + 1)).idxOf jn : Nat)) ∧ ∃ aq' c' M', MkD w'' B db nm (Aq A w2.heap.size (some ⟨g, 0, none⟩)) aq' c' (L ++ [⟨⟨fin, lt, []⟩, none, 0⟩] ++ M ++ M') ∧ ndsOf M' = metN (ndsOf LN) (ordI (ndsOf LN) f u k i) (ordI (ndsOf LN) f u k (i + 1)) ∧ NumOk nm w'' (ordI (ndsOf LN) f u k (i + 1)) ∧ ApartL (L ++ [⟨⟨fin, lt, []⟩, none, 0⟩] ++ M ++ M') ∧ NxO B w'' (L ++ [⟨⟨fin, lt, []⟩, none, 0⟩] ++ M ++ M') ∧ Mst w' w'' db nm aq1 aq') := hid (by
        intro w' hw'
        have hsw := hw'.size
        rw [hos]
        rw [ndsOf_length] at o2
        exact HIH.out jn (ordI (ndsOf LN) f u k i) (Aq A w2.heap.size (some ⟨g, 0, none⟩)) aq1 cM (L ++ [⟨⟨fin, lt, []⟩, none, 0⟩] ++ M) w' (by omega) (by omega) o1 o2 (HMK.out.ext hw') hlM (HNM.out.ext hw') HAPM.out (HMK.out.nxo HNO.out (Ch.of_ext (fun _ => False) hw') (by simp)) (HXM.out.ch (Ch.of_ext (fun _ => False) hw') (by simp) (by simp) (by simp)) (.inl hA1) (.inl hA2) (.inl hA3)
          (fun b hb => by
            rcases hb with h | h | h
            · have := HA.out b h; have := HSTM.out.ch.size; omega
            · omega
            · have e : g = b := by simpa [blkA] using h
              omega) (by have := HSTM.out.ch.size; omega) (fun w'' h => HR.out w'' (HBW.out.trans ((Below.mono hw'.below (by have := HSTM.out.ch.size; omega)).trans h))))
      clear hos o1 o2 o3 o4 o5 hlM
      have HJK := hid hjk
      have HJN := hid hjn
      clear hjk hjn
      have hglt : g < wr.heap.size := hg2
      go_wp2_with fail
      with_reducible refine (HCALL.out _ (Ext.refl _)).mono ?_
      rintro e w3 ⟨rfl, aq2, c2, M2, hmk, hnd2, hnm2, hap2, hno2, hst2⟩
      have hsz3 := hst2.ch.size
      have hgq : ∀ b, Kq db nm aq1 b → ¬ b = g := fun b h e => (HMK.out.klt b h).2 (.inr (.inr (by simp [blkA, e])))
      have HOW3 := hid ((hst2.ch.own HOW.out (fun p e h => hgq _ h (by simp only [Option.some.injEq] at e; subst e; rfl))))
      have HMK3 := hid hmk
      have HND3 := hid hnd2
      have HNM3 := hid hnm2
      have HAP3 := hid hap2
      have HNO3 := hid hno2
      have HST3 := hid hst2
      obtain ⟨I, hI⟩ : ∃ I : Int, ((ordI (ndsOf LN) f u k (i + 1)).idxOf jn : Nat) = I := ⟨_, rfl⟩
      rw [hI]
      have HI := hid hI
      have hgn : ¬ blkA (some (⟨g, 0, none⟩ : Addr)) = some w3.heap.size := by simp [blkA]; omega
      have HGN := hid hgn
      clear hmk hnd2 hnm2 hap2 hno2 hst2 hI hgn hgq
      have hx3 : Ext w3 (w3.alloc (.cells #[.int .i64 I] 2)) := (Ext.refl _).alloc _
      have HOW4 := hid (HOW3.out.ext hx3)
      go_wp2_with (at_builtin; refine wpList_appendO rfl _ _ 63 rfl El_int64 rfl rfl [.int .i64 I] (rd_of_new (by simp) _ _) rfl (by omega) (by simp [Value.oneCell']) HOW4.out (.inr ⟨g, rfl⟩) (by simp; omega) (by unfold maxLen; omega) (by omega) ?_; intro g9 c9 w9 ho9 hc9 hs9; have HO9 := hid ho9; have HC9 := hid hc9; have HS9 := hid hs9; clear ho9 hc9 hs9)
      have hsw := HSTM.out.ch.size
      have hgs : w2.heap.size < g9 ∧ g9 < w9.heap.size := by
        obtain ⟨g0, e9, k1, k2, -, -⟩ := HO9.out.form (by omega)
        simp only [Option.some.injEq, Addr.mk.injEq, and_true] at e9
        subst e9
        exact ⟨k1, k2⟩
      have hq9 : ∀ b, blkA (some (⟨g, 0, none⟩ : Addr)) = some b → g = b := fun b e => by simpa [blkA] using e
      have HM9 : Hid (MkD w9 B db nm (Aq A w2.heap.size (some ⟨g9, 0, none⟩)) aq2 c2 (L ++ [⟨⟨fin, lt, []⟩, none, 0⟩] ++ (M ++ M2))) := hid (by
        have h7 := (HMK3.out.ext hx3).also (A' := fun b => Aq A w2.heap.size (some ⟨g, 0, none⟩) b ∨ b = g9) (fun b hb => by
          rcases hb with h | rfl
          · exact .inl h
          · rcases HS9.out with h | h
            · exact .inl (.inr (.inr h))
            · exact .inr h)
        have h9 := h7.ch (HC9.out.mono (fun b _ e => .inl (.inr (.inr e))))
        rw [← List.append_assoc]
        exact h9.also (fun b hb => by
          rcases hb with h | h | h
          · exact .inl (.inl (.inl h))
          · exact .inl (.inl (.inr (.inl h)))
          · exact .inl (.inr (by simpa [blkA] using h.symm))))
      have HST9 : Hid (Mst w w9 db nm aq aq2) := hid (((HSTM.out.trans HST3.out).trans (Mst.of_ext hx3 db nm aq2)).thenOwn HC9.out (fun b e => by have := hq9 b e; omega))
      have HNM9 : Hid (NumOk nm w9 (ordI (ndsOf LN) f u k (i + 1))) := hid ((HNM3.out.ext hx3).ch HC9.out (fun e => HMK.out.am.2 (.inr (.inr e))))
      have HKQ := hid HMK.out.klt
      have HBX9 : Hid (Bx w9 w2.heap.size 65 [.bool fin, .string lt, .slice (some ⟨bx, ox, none⟩) nx0.length pc]) := hid (((HBX.out.ch HST3.out.ch (fun e => (HKQ.out _ e).2 (.inr (.inl rfl)))).ext hx3).ch HC9.out (fun e => by have := hq9 _ e; omega))
      have hAg : ∀ b, A b → ¬ blkA (some (⟨g, 0, none⟩ : Addr)) = some b := fun b h e => by have := hq9 _ e; have := HA.out b h; omega
      have HXM9 : Hid (NBox w9 nb nm mb mk vb db) := hid (((HXM.out.ch HST3.out.ch (fun e => (HKQ.out _ e).2 (.inl hA1)) (fun e => (HKQ.out _ e).2 (.inl hA2)) (fun e => (HKQ.out _ e).2 (.inl hA3))).ch (Ch.of_ext (fun _ => False) hx3) (by simp) (by simp) (by simp)).ch HC9.out (hAg _ hA1) (hAg _ hA2) (hAg _ hA3))
      go_roundw
      case rel =>
        refine ⟨i + 1, g9, c9, aq2, c2, M ++ M2, by go_num, by omega, rfl, hid ?_, hgs.1, hgs.2, HM9, hid ?_, HNM9, hid ?_, hid ?_, HST9, HBX9, HXM9⟩
        · rw [hns, HI.out, intsV_add]
          exact HO9.out
        · rw [HMS.out i hil, ← HND.out, ← HND3.out]
          simp [ndsOf]
        · rw [← List.append_assoc]
          exact HAP3.out
        · rw [← List.append_assoc]
          exact HMK3.out.nxo HNO3.out ((Ch.of_ext _ hx3).trans HC9.out) (fun b h => .inr (.inr (.inr h)))
      case measure => simp [intOf]; omega
    · obtain rfl : i = nx0.length := by omega
      obtain ⟨n1, hn1⟩ : ∃ n, (L ++ [(⟨⟨fin, lt, []⟩, none, 0⟩ : NdP)] ++ M).length = n := ⟨_, rfl⟩
      have hn2 : L.length < n1 := by rw [← hn1]; simp
      have d9 := HMK.out.bx.cell (i := 0) rfl
      obtain ⟨g1, rfl⟩ : ∃ g, aq1 = some ⟨g, 0, none⟩ := by
        rcases HMK.out.sh with ⟨-, h, -⟩ | h
        · rw [hn1] at h; omega
        · exact h
      rw [hn1] at d9
      obtain ⟨g0, e9, k1, k2, k3, k4⟩ := HMK.out.own.form (by rw [hn1]; omega)
      simp only [Option.some.injEq, Addr.mk.injEq, and_true] at e9
      subst e9
      obtain ⟨b9, o9, e9, hcl⟩ := HMK.out.own.rd.nds (by rw [hn1]; omega)
      simp only [Option.some.injEq, Addr.mk.injEq, and_true] at e9
      obtain ⟨rfl, rfl⟩ := e9
      obtain ⟨-, -, s2⟩ := hcl L.length (by rw [hn1]; exact hn2)
      rw [Nat.zero_add] at s2
      have f9 := k3 (L.length * 3 + 2)
      have HN1 := hid hn1
      clear hcl k3 k4 hn1
      go_wp2_with fail
      go_returns
      have hsw := HSTM.out.ch.size
      obtain ⟨o1, o2, o3, o4, o5⟩ := HORD.out nx0.length
      rw [HOA.out] at o5
      have hat : ndAt (L ++ [(⟨⟨fin, lt, []⟩, none, 0⟩ : NdP)] ++ M) L.length = ⟨⟨fin, lt, []⟩, none, 0⟩ := by
        unfold ndAt
        rw [List.getD_eq_getElem?_getD, List.append_assoc, List.getElem?_append_right (Nat.le_refl _), Nat.sub_self]
        rfl
      have hgA : ¬ A g := fun h => by have := HA.out g h; omega
      have hHM := (HMK.out.also (A' := A) (fun b h => .inl (.inl h))).setNx L.length ⟨⟨fin, lt, nxI (ndsOf LN) f u k nx0.length⟩, some ⟨g, 0, none⟩, cg⟩ (by rw [HN1.out]; exact hn2) (by rw [hat]) (by rw [hat]) HOW.out.rd (fun hn q e => by
        simp only [Option.some.injEq] at e
        subst e
        exact ⟨hg2, fun e => HMK.out.am.1 (.inr (.inr (by simp [blkA, ← e]))), fun e => HMK.out.am.2 (.inr (.inr (by simp [blkA, ← e]))), hgA, fun e => (HMK.out.aqm _ rfl).2.2.2 (.inr (.inr (by simp [blkA, e])))⟩)
      have hlx : (nxI (ndsOf LN) f u k nx0.length).length = nx0.length := by
        have := HOW.out.length
        rw [ints_len] at this
        omega
      have hset : (L ++ [(⟨⟨fin, lt, []⟩, none, 0⟩ : NdP)] ++ M).set L.length ⟨⟨fin, lt, nxI (ndsOf LN) f u k nx0.length⟩, some ⟨g, 0, none⟩, cg⟩ = L ++ (⟨⟨fin, lt, nxI (ndsOf LN) f u k nx0.length⟩, some ⟨g, 0, none⟩, cg⟩ :: M) := by
        rw [List.append_assoc, List.set_append_right _ _ (Nat.le_refl _), Nat.sub_self]
        rfl
      rw [hset] at hHM
      simp only [hlx] at hHM
      have hcw := Ch.set wr g1 (L.length * 3 + 2) (.slice (some ⟨g, 0, none⟩) nx0.length cg)
      refine ⟨by rw [HIDX.out _ o5]; rfl, some ⟨g1, 0, none⟩, cM, ⟨⟨fin, lt, nxI (ndsOf LN) f u k nx0.length⟩, some ⟨g, 0, none⟩, cg⟩ :: M, hHM, ?_, ?_, ?_, ?_, ?_⟩
      · rw [metN_cons o5, HNA.out, ← HOA.out, ← HND.out]
        rfl
      · rw [← HOA.out]
        exact HNM.out.ch hcw (fun e => (HMK.out.aqm _ rfl).2.2.1 e.symm)
      · have h := HAPM.out.put (q := ⟨⟨fin, lt, nxI (ndsOf LN) f u k nx0.length⟩, some ⟨g, 0, none⟩, cg⟩) (fun _ y e x hx h0 z ez => by
          simp only [Option.some.injEq] at e
          subst e
          exact fun e => (HMK.out.ap x hx h0 z ez).2.2.2.1 (.inr (.inr (by simp [blkA, e]))))
        rw [List.append_assoc] at h
        exact h
      · have hnn := HMK.out.nxo HNO.out hcw (fun b h => .inl (.inr (.inr (by simp [blkA, h]))))
        intro p hp
        have hk : p ∈ L ++ [(⟨⟨fin, lt, []⟩, none, 0⟩ : NdP)] ++ M ∨ p = ⟨⟨fin, lt, nxI (ndsOf LN) f u k nx0.length⟩, some ⟨g, 0, none⟩, cg⟩ := by
          rcases List.mem_append.1 hp with hp | hp
          · exact .inl (by simp [hp])
          · rcases List.mem_cons.1 hp with hp | hp
            · exact .inr hp
            · exact .inl (by simp [hp])
        rcases hk with hk | rfl
        · exact hnn p hk
        · exact ((hcw.inR HOW.out.inR (fun _ q e => by
            simp only [Option.some.injEq] at e
            subst e
            exact fun e => (HMK.out.aqm _ rfl).2.2.2 (.inr (.inr (by simp [blkA, ← e])))) ).up hcw.size).down (by have := HSTM.out.ch.size; have := hs2; omega)
      · exact HSTM.out.trans ⟨hcw.mono (fun b _ e => .inr (.inr (by simp [blkA, e]))), fun b h => .inl h⟩
theorem nvisit_any (B nb db nm mb mk vb : Nat) (hnm : nm ≠ db) (aN : Option Addr) (cN : Nat) (LN : List NdP) (hlen : LN.length ≤ 200000) (hDn : Dn (ndsOf LN)) (hnx : ∀ p ∈ LN, p.nd.nx.length ≤ 100000) (f : Nat) : VisC B nb db nm mb mk vb aN cN LN f := by
  induction f with
  | zero => intro k o A aq c L w h; omega
  | succ f ih =>
    intro k o A aq c L w h1 h2 h3 h4 h5 h6 h7 h8 hno h9 hA1 hA2 hA3 hA hB hR
    by_cases hko : k ∈ o
    · exact nvisit_old B nb db nm mb mk vb hnm aN cN LN f k o A aq c L w hlen h2 hko h5 h6 h7 h8 hno h9
    · exact nvisit_new B nb db nm mb mk vb hnm aN cN LN f ih hlen hDn hnx k o A aq c L w h2 (by omega) hko h3 h4 h5 h6 h7 h8 hno h9 hA1 hA2 hA3 hA hB hR
end Go.Proofs.YtlnccdbmchjhlaaDoor
