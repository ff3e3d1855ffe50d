/- Numbering by the reference: a visit. Conditions: at most 200000 nodes, each of at most 100000 edges. -/
import Derived.Test.YtabljchbchjjcaaGreatDoorMg18
namespace Go.Proofs.YtabljchbchjjcaaGreatDoor
set_option linter.unusedVariables false
set_option linter.unusedSimpArgs false
open Go Go.RowKit
/-- A node without its edges. -/
def bareN (N : List Nd) (j : Nat) : NdP := ⟨⟨(ndG N j).fin, (ndG N j).lt, []⟩, none, 0⟩
/-- A node's place among those met; -1 when it was not met. -/
def plc (o : List Nat) (j : Nat) : Int := if j ∈ o then (o.idxOf j : Int) else -1
def plcs (o : List Nat) (n : Nat) : List Int := (List.range n).map (plc o)
theorem plcs_len (o : List Nat) (n : Nat) : (plcs o n).length = n := by simp [plcs]
theorem plcs_at {o : List Nat} {n j : Nat} (h : j < n) : (plcs o n)[j]'(by rw [plcs_len]; exact h) = plc o j := by simp [plcs]
theorem plcs_nil (n : Nat) : plcs [] n = List.replicate n (-1) := by
  apply List.ext_getElem
  · rw [plcs_len, List.length_replicate]
  · intro i h1 h2
    rw [plcs_at (by rw [plcs_len] at h1; exact h1), List.getElem_replicate]
    simp [plc]
theorem plc_other {o : List Nat} {j k : Nat} (h : j ≠ k) : plc (o ++ [k]) j = plc o j := by
  unfold plc
  by_cases hj : j ∈ o
  · rw [if_pos (by simp [hj]), if_pos hj, List.idxOf_append, if_pos hj]
  · rw [if_neg (by simp [hj, h]), if_neg hj]
theorem plc_new {o : List Nat} {k : Nat} (h : k ∉ o) : plc (o ++ [k]) k = (o.length : Int) := by
  unfold plc
  rw [if_pos (by simp), idxOf_new h]
theorem plcs_put {o : List Nat} {n k : Nat} (hk : k ∉ o) : (plcs o n).set k (o.length : Int) = plcs (o ++ [k]) n := by
  apply List.ext_getElem
  · rw [List.length_set, plcs_len, plcs_len]
  · intro i h1 h2
    have hi : i < n := by rw [plcs_len] at h2; exact h2
    rw [List.getElem_set, plcs_at hi, plcs_at hi]
    split
    · rename_i e
      subst e
      rw [plc_new hk]
    · rename_i e
      rw [plc_other (fun q => e q.symm)]
theorem plc_neg {o : List Nat} {j : Nat} (h : j ∉ o) : plc o j = -1 := if_neg h
theorem plc_pos {o : List Nat} {j : Nat} (h : j ∈ o) : plc o j = (o.idxOf j : Int) := if_pos h
theorem intsV_set (l : List Int) (i : Nat) (x : Int) : (intsV l).set i (.int .i64 x) = intsV (l.set i x) := by simp [intsV, List.map_set]
/-- What the reference's numbering holds when the nodes o have been met. -/
structure Rk (w : World) (B r gP cP : Nat) (aN : Option Addr) (cN : Nat) (N : List Nd) (aq : Option Addr) (c : Nat) (o : List Nat) : Prop where
  bx : Bx w r 122 [.slice aN N.length cN, .slice (some ⟨gP, 0, none⟩) N.length cP, .slice aq o.length c]
  pl : Own w B 2 1 (some ⟨gP, 0, none⟩) N.length cP (intsV (plcs o N.length))
  own : Own w B 92 3 aq o.length c (ndsV (o.map (bareN N)))
  sh : aq = none ∧ o.length = 0 ∧ c = 0 ∧ ndsV (o.map (bareN N)) = [] ∨ ∃ g, aq = some ⟨g, 0, none⟩
  lo : B ≤ r ∧ B ≤ gP ∧ gP ≠ r ∧ gP < w.heap.size
  aqm : ∀ p, aq = some p → B ≤ p.block ∧ p.block < w.heap.size ∧ p.block ≠ r ∧ p.block ≠ gP
theorem Rk.ext {w w' : World} {B r gP cP : Nat} {aN : Option Addr} {cN : Nat} {N : List Nd} {aq : Option Addr} {c : Nat} {o : List Nat} (h : Rk w B r gP cP aN cN N aq c o) (k : Ext w w') : Rk w' B r gP cP aN cN N aq c o :=
  ⟨h.bx.ext k, h.pl.ext k, h.own.ext k, h.sh, ⟨h.lo.1, h.lo.2.1, h.lo.2.2.1, Nat.lt_of_lt_of_le h.lo.2.2.2 k.size⟩, fun p e => ⟨(h.aqm p e).1, Nat.lt_of_lt_of_le (h.aqm p e).2.1 k.size, (h.aqm p e).2.2⟩⟩
theorem bare_snoc (N : List Nd) (o : List Nat) (k : Nat) : ndsV ((o ++ [k]).map (bareN N)) = ndsV (o.map (bareN N)) ++ [.bool (ndG N k).fin, .string (ndG N k).lt, .slice none 0 0] := by
  rw [List.map_append, ndsV_append]
  simp [ndsV, bareN]
/-- A node is met. -/
theorem Rk.step {w w1 w2 : World} {B r gP cP : Nat} {aN : Option Addr} {cN : Nat} {N : List Nd} {aq : Option Addr} {c : Nat} {o : List Nat} {k g' c' : Nat} (h : Rk w B r gP cP aN cN N aq c o) (hk : k ∉ o) (hx : Ch (fun b => b = gP) w w1) (hp : Own w1 B 2 1 (some ⟨gP, 0, none⟩) N.length cP (intsV (plcs (o ++ [k]) N.length)))
    (ho : Own w2 B 92 3 (some ⟨g', 0, none⟩) (o.length + 1) c' (ndsV (o.map (bareN N)) ++ [.bool (ndG N k).fin, .string (ndG N k).lt, .slice none 0 0])) (hc : Ch (fun b => blkA aq = some b) w1 w2) (hs : blkA aq = some g' ∨ w1.heap.size ≤ g') :
    Rk (w2.setCell ⟨r, 2, none⟩ (.slice (some ⟨g', 0, none⟩) (o.length + 1) c')) B r gP cP aN cN N (some ⟨g', 0, none⟩) c' (o ++ [k]) ∧ Below B w (w2.setCell ⟨r, 2, none⟩ (.slice (some ⟨g', 0, none⟩) (o.length + 1) c')) := by
  obtain ⟨g9, e9, h1, h2, -, -⟩ := ho.form (by omega)
  simp only [Option.some.injEq, Addr.mk.injEq, and_true] at e9
  subst e9
  have hz1 := hx.size
  have hz2 := hc.size
  have hrl := h.bx.lt
  have hq : ∀ b, blkA aq = some b → B ≤ b ∧ b < w.heap.size ∧ b ≠ r ∧ b ≠ gP := fun b e => by
    cases aq with
    | none => simp [blkA] at e
    | some p =>
      have e2 : p.block = b := by simpa [blkA] using e
      subst e2
      exact h.aqm p rfl
  have hgr : g' ≠ r ∧ g' ≠ gP := by
    rcases hs with e | e
    · exact (hq g' e).2.2
    · have := h.lo.2.2.2
      exact ⟨by omega, by omega⟩
  have hset := Ch.set w2 r 2 (.slice (some ⟨g', 0, none⟩) (o.length + 1) c')
  have hb2 : Bx w2 r 122 [.slice aN N.length cN, .slice (some ⟨gP, 0, none⟩) N.length cP, .slice aq o.length c] := (h.bx.ch hx (fun e => h.lo.2.2.1 e.symm)).ch hc (fun e => (hq r e).2.2.1 rfl)
  refine ⟨⟨?_, ?_, ?_, .inr ⟨g', rfl⟩, ⟨h.lo.1, h.lo.2.1, h.lo.2.2.1, ?_⟩, ?_⟩, ?_⟩
  · have := hb2.set 2 (.slice (some ⟨g', 0, none⟩) (o.length + 1) c')
    simpa using this
  · refine hset.own (hc.own hp (fun p e q => ?_)) (fun p e q => ?_)
    · simp only [Option.some.injEq] at e
      subst e
      exact (hq _ q).2.2.2 rfl
    · simp only [Option.some.injEq] at e
      subst e
      exact h.lo.2.2.1 q
  · rw [List.length_append, bare_snoc]
    refine hset.own ho (fun p e q => ?_)
    simp only [Option.some.injEq] at e
    subst e
    exact hgr.1 q
  · have := hset.size
    have := h.lo.2.2.2
    omega
  · intro p e
    simp only [Option.some.injEq] at e
    subst e
    have := hset.size
    exact ⟨h1, show g' < _ by omega, hgr.1, hgr.2⟩
  · have hB : B ≤ w.heap.size := by have := h.lo.1; omega
    exact ((hx.below hB (fun b e => by rw [e]; exact h.lo.2.1)).trans (hc.below (by omega) (fun b e => (hq b e).1))).trans (hset.below (by omega) (fun b e => by rw [e]; exact h.lo.1))
/-- The nodes that are numbered, to be read. -/
structure OldRd (w : World) (aN : Option Addr) (LN : List NdP) : Prop where
  row : Rd w aN (ndsV LN)
  nx : ∀ p ∈ LN, Rd w p.a (intsV p.nd.nx)
/-- What a visit is to do. -/
def SVisC (B r gP cP : Nat) (aN : Option Addr) (cN : Nat) (LN : List NdP) (f : Nat) : Prop := ∀ (k : Nat) (o : List Nat) (aq : Option Addr) (c : Nat) (w : World),
  k < f → k < LN.length → k ∉ o → o.Nodup → (∀ x ∈ o, x < LN.length) → Rk w B r gP cP aN cN (ndsOf LN) aq c o → (∀ w', Below B w w' → OldRd w' aN LN) →
  Calls Tryz.prog 70 #[.pointer (some ⟨r, 0, none⟩), .int .i64 (k : Int)] w fun e w' => e = .returned (.tuple #[]) ∧ ∃ aq' c', Rk w' B r gP cP aN cN (ndsOf LN) aq' c' (dfs (ndsOf LN) f o k) ∧ Below B w w'
set_option maxRecDepth 100000 in
set_option maxHeartbeats 8000000 in
theorem svisit_new (B r gP cP : Nat) (aN : Option Addr) (cN : Nat) (LN : List NdP) (f : Nat) (ih : SVisC B r gP cP aN cN LN f) (hlen : LN.length ≤ 200000) (hDn : Dn (ndsOf LN)) (hnx : ∀ p ∈ LN, p.nd.nx.length ≤ 100000) (hNB : ∀ p, aN = some p → p.block < B)
    (k : Nat) (u : List Nat) (aq : Option Addr) (c : Nat) (w : World) (hk : k < LN.length) (hkf : k ≤ f) (hko : k ∉ u) (hu1 : u.Nodup) (hu2 : ∀ x ∈ u, x < LN.length) (hM : Rk w B r gP cP aN cN (ndsOf LN) aq c u) (hR : ∀ w', Below B w w' → OldRd w' aN LN) :
    Calls Tryz.prog 70 #[.pointer (some ⟨r, 0, none⟩), .int .i64 (k : Int)] w fun e w' => e = .returned (.tuple #[]) ∧ ∃ aq' c', Rk w' B r gP cP aN cN (ndsOf LN) aq' c' (dfs (ndsOf LN) (f + 1) u k) ∧ Below B w w' := by
  have hul : u.length ≤ LN.length := nodup_len hu1 hu2
  obtain ⟨bN, oN, rfl, -⟩ := (hR w (Below.refl _ _)).row.nds (by omega)
  obtain ⟨q, hq⟩ : ∃ q, oN + k * 3 = q := ⟨_, rfl⟩
  obtain ⟨p0, hp0⟩ : ∃ p, ndAt LN k = p := ⟨_, rfl⟩
  obtain ⟨⟨fin, lt, nx0⟩, pa, pc⟩ := p0
  have HP0 := hid hp0
  have HNB : Hid (∀ w', Below B w w' → w'.cell? ⟨bN, q, none⟩ = some (.bool fin) ∧ w'.cell? ⟨bN, q + 1, none⟩ = some (.string lt) ∧ w'.cell? ⟨bN, q + 2, none⟩ = some (.slice pa nx0.length pc)) := hid (by
    intro w' hb
    obtain ⟨b9, o9, e9, hcl⟩ := (hR w' hb).row.nds (by omega)
    simp only [Option.some.injEq, Addr.mk.injEq, and_true] at e9
    obtain ⟨rfl, rfl⟩ := e9
    obtain ⟨x0, x1, x2⟩ := hcl k hk
    rw [hp0, hq] at x0 x1 x2
    exact ⟨x0, x1, x2⟩)
  have hgN : ndG (ndsOf LN) k = ⟨fin, lt, nx0⟩ := by rw [ndG_of, hp0]
  have HGN := hid hgN
  have hkN : k < (ndsOf LN).length := by rw [ndsOf_length]; exact hk
  have huN : ∀ x ∈ u, x < (ndsOf LN).length := by rw [ndsOf_length]; exact hu2
  have hx0 : nxs (ndsOf LN) k = nx0.map Int.toNat := by unfold nxs; rw [hgN]
  have HORD := hid (fun i => ordI_ok hDn hkN hkf hko hu1 huN i)
  have HCHD : Hid (∀ i (h : i < nx0.length), 0 ≤ nx0[i] ∧ nx0[i] < (k : Int)) := hid (fun i h => (hDn k hkN).2 _ (by rw [hgN]; exact List.getElem_mem h))
  have HOS : Hid (∀ i (h : i < nx0.length), ordI (ndsOf LN) f u k (i + 1) = dfs (ndsOf LN) f (ordI (ndsOf LN) f u k i) (nx0[i]).toNat) := hid (fun i h => by
    have h2 : i < (nxs (ndsOf LN) k).length := by rw [hx0]; simpa using h
    rw [ordI_succ h2]
    simp [hx0])
  have HOA : Hid (ordI (ndsOf LN) f u k nx0.length = dfs (ndsOf LN) (f + 1) u k) := hid (by
    have h2 := ordI_all (N := ndsOf LN) (f := f) hko
    rw [hx0, List.length_map] at h2
    exact h2)
  have hnl : nx0.length ≤ 100000 := by
    have h2 := hnx _ (ndAt_mem LN k hk)
    rw [hp0] at h2
    exact h2
  have HPM : Hid (⟨⟨fin, lt, nx0⟩, pa, pc⟩ ∈ LN) := hid (by rw [← hp0]; exact ndAt_mem LN k hk)
  have hbN : bN < B := hNB _ rfl
  have HM := hid hM
  have HR := hid hR
  have HIH := hid ih
  have HKO := hid hko
  have hB : B ≤ w.heap.size := by have := hM.lo.1; have := hM.bx.lt; omega
  have hLe : (ndsOf LN).length = LN.length := ndsOf_length LN
  have r0 := hM.bx.cell (i := 0) rfl
  have r1 := hM.bx.cell (i := 1) rfl
  have r2 := hM.bx.cell (i := 2) rfl
  rw [hLe] at r0 r1
  have hrl := hM.bx.lt
  clear hR ih hp0 hgN hx0 hM hko
  go_enter Tryz.func70, Tryz.ntmps70
  go_wp2_with fail
  refine wp_region_flow_at (C := Ext) 11 [fun v _ => v = .pointer (some ⟨r, 0, none⟩), fun v _ => v = .pointer (some ⟨r, 0, none⟩), fun v _ => v = .pointer (some ⟨r, 1, none⟩), fun v _ => v = .slice (some ⟨gP, 0, none⟩) LN.length cP, fun v _ => v = .int .i64 (k : Int), fun v _ => v = .pointer (some ⟨r, 0, none⟩), fun v _ => v = .pointer (some ⟨r, 0, none⟩), fun v _ => v = .pointer (some ⟨r, 2, none⟩), fun v _ => v = .slice aq u.length c, fun v _ => v = .int .i64 (u.length : Int), fun v _ => v = .pointer (some ⟨gP, k, none⟩)]
    [[(0, none)], [(6, some 0)], [(7, some 1)], [(8, some 2)], [(1, none)], [(0, none)], [(11, some 5)], [(12, some 6)], [(13, some 7)], [(14, some 8)], [(9, some 3), (10, some 4)]] (by kernel_rfl) (by kernel_rfl) Ext.refl (fun _ _ _ => Ext.trans) ?_ ?_ ?_
  · intro F hF
    simp only [List.mem_cons, List.not_mem_nil, or_false] at hF
    rcases hF with rfl | rfl | rfl | rfl | rfl | rfl | rfl | rfl | rfl | rfl | rfl <;> exact fun _ _ _ h _ => h
  · refine ⟨?_, ?_, ?_, ?_, ?_, ?_, ?_, ?_, ?_, ?_, ?_, trivial⟩
    · rintro ρ w1 hw hcst hfn hk
      clear hw
      simp only [known, List.getD_cons_zero, List.getD_cons_succ, Nat.reduceAdd] at hk
      simp only [List.getD_cons_zero, List.getD_cons_succ, Nat.reduceAdd, flowAt]
      go_simp
      exact ⟨Ext.refl _, by first | rfl | trivial⟩
    · rintro ρ w1 hw hcst hfn hk
      clear hw
      simp only [known, List.getD_cons_zero, List.getD_cons_succ, Nat.reduceAdd] at hk
      simp only [List.getD_cons_zero, List.getD_cons_succ, Nat.reduceAdd, flowAt]
      go_simp
      exact ⟨Ext.refl _, by first | rfl | trivial⟩
    · rintro ρ w1 hw hcst hfn hk
      clear hw
      simp only [known, List.getD_cons_zero, List.getD_cons_succ, Nat.reduceAdd] at hk
      simp only [List.getD_cons_zero, List.getD_cons_succ, Nat.reduceAdd, flowAt]
      go_simp
      exact ⟨Ext.refl _, by first | rfl | trivial⟩
    · rintro ρ w1 hw hcst hfn hk
      have c0 := hw.cell (b := r) (o := 1) (v := .slice (some ⟨gP, 0, none⟩) LN.length cP) (by first | (simp [*]; done) | (simp [*, go_sem]; done) | go_cell)
      clear hw
      simp only [known, List.getD_cons_zero, List.getD_cons_succ, Nat.reduceAdd] at hk
      simp only [List.getD_cons_zero, List.getD_cons_succ, Nat.reduceAdd, flowAt]
      go_simp
      exact ⟨Ext.refl _, by first | rfl | trivial⟩
    · rintro ρ w1 hw hcst hfn hk
      clear hw
      simp only [known, List.getD_cons_zero, List.getD_cons_succ, Nat.reduceAdd] at hk
      simp only [List.getD_cons_zero, List.getD_cons_succ, Nat.reduceAdd, flowAt]
      go_simp
      exact ⟨Ext.refl _, by first | rfl | trivial⟩
    · rintro ρ w1 hw hcst hfn hk
      clear hw
      simp only [known, List.getD_cons_zero, List.getD_cons_succ, Nat.reduceAdd] at hk
      simp only [List.getD_cons_zero, List.getD_cons_succ, Nat.reduceAdd, flowAt]
      go_simp
      exact ⟨Ext.refl _, by first | rfl | trivial⟩
    · rintro ρ w1 hw hcst hfn hk
      clear hw
      simp only [known, List.getD_cons_zero, List.getD_cons_succ, Nat.reduceAdd] at hk
      simp only [List.getD_cons_zero, List.getD_cons_succ, Nat.reduceAdd, flowAt]
      go_simp
      exact ⟨Ext.refl _, by first | rfl | trivial⟩
    · rintro ρ w1 hw hcst hfn hk
      clear hw
      simp only [known, List.getD_cons_zero, List.getD_cons_succ, Nat.reduceAdd] at hk
      simp only [List.getD_cons_zero, List.getD_cons_succ, Nat.reduceAdd, flowAt]
      go_simp
      exact ⟨Ext.refl _, by first | rfl | trivial⟩
    · rintro ρ w1 hw hcst hfn hk
      have c0 := hw.cell (b := r) (o := 2) (v := .slice aq u.length c) (by first | (simp [*]; done) | (simp [*, go_sem]; done) | go_cell)
      clear hw
      simp only [known, List.getD_cons_zero, List.getD_cons_succ, Nat.reduceAdd] at hk
      simp only [List.getD_cons_zero, List.getD_cons_succ, Nat.reduceAdd, flowAt]
      go_simp
      exact ⟨Ext.refl _, by first | rfl | trivial⟩
    · rintro ρ w1 hw hcst hfn hk
      clear hw
      simp only [known, List.getD_cons_zero, List.getD_cons_succ, Nat.reduceAdd] at hk
      simp only [List.getD_cons_zero, List.getD_cons_succ, Nat.reduceAdd, flowAt]
      go_simp
      exact ⟨Ext.refl _, by first | rfl | trivial⟩
    · rintro ρ w1 hw hcst hfn hk
      simp only [known, List.getD_cons_zero, List.getD_cons_succ, Nat.reduceAdd] at hk
      simp only [List.getD_cons_zero, List.getD_cons_succ, Nat.reduceAdd, flowAt]
      go_simp
      exact ⟨Ext.refl _, by first | rfl | rw [Nat.zero_add]⟩
  intro vs w1 hw hf
  simp only [flowFacts, Nat.reduceAdd] at hf
  obtain ⟨e0, e1, e2, e3, e4, e5, e6, e7, e8, e9, e10, -⟩ := hf
  simp only [List.take_succ_cons, List.take_zero, List.drop_succ_cons, List.drop_zero, putAll, Act.put, Nat.reduceAdd, List.setIfInBounds_toArray, List.set_cons_zero, List.set_cons_succ, e0, e1, e2, e3, e4, e5, e6, e7, e8, e9, e10]
  clear e0 e1 e2 e3 e4 e5 e6 e7 e8 e9 e10
  have hx1 := (Ext.refl _).drew.trans hw
  have HM1 := hid (HM.out.ext hx1)
  have hbw1 : Below B w w1 := Below.mono hx1.below hB
  have HX1 := hid hx1
  have hpf : w1.frozen? ⟨gP, k, none⟩ = false := by
    obtain ⟨g0, e9, -, -, k3, -⟩ := HM1.out.pl.form (by rw [hLe]; omega)
    simp only [Option.some.injEq, Addr.mk.injEq, and_true] at e9
    subst e9
    exact k3 k
  have hpc : w1.cell? ⟨gP, k, none⟩ = some (.int .i64 (plc u k)) := by
    obtain ⟨b9, o9, e9, hcl⟩ := HM1.out.pl.rd.int (by rw [plcs_len, hLe]; omega)
    simp only [Option.some.injEq, Addr.mk.injEq, and_true] at e9
    obtain ⟨rfl, rfl⟩ := e9
    have h := hcl k (by rw [plcs_len, hLe]; exact hk)
    rw [plcs_at (by rw [hLe]; exact hk), Nat.zero_add] at h
    exact h
  have HB1 := hid hbw1
  clear hw hx1 hbw1 r0 r1 r2
  go_wp2_with fail
  obtain ⟨W1, hW1⟩ : ∃ W, w1.setCell ⟨gP, k, none⟩ (.int .i64 (u.length : Int)) = W := ⟨_, rfl⟩
  have hc1 := Ch.set w1 gP k (.int .i64 (u.length : Int))
  have hp1 := HM1.out.pl.setIn k (by rw [intsV_length, plcs_len, hLe]; exact hk) (.int .i64 (u.length : Int))
  rw [intsV_set, plcs_put HKO.out] at hp1
  rw [hW1] at hc1 hp1
  try rw [hW1]
  have HC1 := hid hc1
  have HP1 := hid hp1
  have hz1 := HX1.out.size
  have hz2 := hc1.size
  have hgr : gP ≠ r := HM.out.lo.2.2.1
  have hnr : ¬ blkA aq = some r := fun e => by
    cases aq with
    | none => simp [blkA] at e
    | some p => exact (HM.out.aqm p rfl).2.2.1 (by simpa [blkA] using e)
  have hbe : B ≤ r ∧ B ≤ gP := ⟨HM.out.lo.1, HM.out.lo.2.1⟩
  have HBW1 : Hid (Below B w W1) := hid (HB1.out.trans (hc1.below (by omega) (fun b e => by rw [e]; exact hbe.2)))
  have hr1 : Bx W1 r 122 [.slice (some ⟨bN, oN, none⟩) (ndsOf LN).length cN, .slice (some ⟨gP, 0, none⟩) (ndsOf LN).length cP, .slice aq u.length c] := HM1.out.bx.ch hc1 (fun e => hgr e.symm)
  have HR1 := hid hr1
  have r0 := hr1.cell (i := 0) rfl
  have r1 := hr1.cell (i := 1) rfl
  have r2 := hr1.cell (i := 2) rfl
  rw [hLe] at r0 r1
  obtain ⟨x0, x1, x2⟩ := HNB.out W1 HBW1.out
  have hnn : ¬ blkA aq = some bN := fun e => by
    cases aq with
    | none => simp [blkA] at e
    | some p =>
      have e2 : p.block = bN := by simpa [blkA] using e
      obtain ⟨a1, a2, -, -⟩ := HM.out.aqm p rfl
      omega
  have HNR := hid hnr
  have HNN := hid hnn
  have HSH := hid HM1.out.sh
  have HEX : Hid (∀ w' : World, Ext W1.drew w' → Own w' B 92 3 aq u.length c (ndsV (u.map (bareN (ndsOf LN))))) := hid (fun w' (k : Ext W1.drew w') => (hc1.own HM1.out.own (fun p e q => (HM.out.aqm p e).2.2.2 q)).ext ((Ext.refl _).drew.trans k))
  clear hW1 hc1 hp1 hpc hpf hr1 hnr hnn
  go_wp2_with fail
  refine wp_region_flagM_at 24 23 (Ch (fun b => blkA aq = some b)) (Ch (fun b => blkA aq = some b)) (fun fl => [fun v _ => v = .pointer (some ⟨r, 0, none⟩), fun v _ => v = .pointer (some ⟨r, 0, none⟩), fun v _ => v = .pointer (some ⟨r, 0, none⟩), fun v _ => v = .pointer (some ⟨r, 2, none⟩), fun v _ => v = .slice aq u.length c, fun v _ => v = .pointer (some ⟨r, 0, none⟩), fun v _ => v = .pointer (some ⟨r, 0, none⟩), fun v _ => v = .pointer (some ⟨r, 0, none⟩), fun v _ => v = .slice (some ⟨bN, oN, none⟩) LN.length cN, fun v _ => v = .int .i64 (k : Int), fun v _ => v = .pointer (some ⟨bN, q, none⟩), fun v _ => v = .pointer (some ⟨bN, q, none⟩), fun v _ => v = .bool fin, fun v _ => v = .pointer (some ⟨r, 0, none⟩), fun v _ => v = .pointer (some ⟨r, 0, none⟩), fun v _ => v = .pointer (some ⟨r, 0, none⟩), fun v _ => v = .slice (some ⟨bN, oN, none⟩) LN.length cN, fun v _ => v = .int .i64 (k : Int), fun v _ => v = .pointer (some ⟨bN, q, none⟩), fun v _ => v = .pointer (some ⟨bN, q + 1, none⟩), fun v _ => v = .string lt, fun v _ => v = .agg #[.bool fin, .string lt, .slice none 0 0], fun v w' => fl = false → ∃ g, v = .slice (some ⟨g, 0, none⟩) 1 1 ∧ Rd w' (some ⟨g, 0, none⟩) [.bool fin, .string lt, .slice none 0 0], fun v w' => fl = true ∧ ∃ g' c', v = .slice (some ⟨g', 0, none⟩) (u.length + 1) c' ∧ Own w' B 92 3 (some ⟨g', 0, none⟩) (u.length + 1) c' (ndsV (u.map (bareN (ndsOf LN))) ++ [.bool fin, .string lt, .slice none 0 0]) ∧ (blkA aq = some g' ∨ W1.heap.size ≤ g')])
    [[(0, none)], [(0, none)], [(18, some 1)], [(19, some 2)], [(20, some 3)], [(0, none)], [(22, some 5)], [(23, some 6)], [(24, some 7)], [(1, none)], [(25, some 8), (26, some 9)], [(27, some 10)], [(28, some 11)], [(0, none)], [(30, some 13)], [(31, some 14)], [(32, some 15)], [(1, none)], [(33, some 16), (34, some 17)], [(35, some 18)], [(36, some 19)], [(29, some 12), (37, some 20)], [(38, some 21)], [(21, some 4), (39, some 22)]] (by kernel_rfl) (by kernel_rfl) rfl (by omega) (fun x h => Ch.of_ext _ h) (fun x y h k => h.thenExt k) (fun x y h k => (Ch.of_ext _ h).trans k) ?_ ?_ ?_ ?_
  · intro fl i hi
    obtain rfl | rfl | rfl | rfl | rfl | rfl | rfl | rfl | rfl | rfl | rfl | rfl | rfl | rfl | rfl | rfl | rfl | rfl | rfl | rfl | rfl | rfl | rfl | rfl : i = 0 ∨ i = 1 ∨ i = 2 ∨ i = 3 ∨ i = 4 ∨ i = 5 ∨ i = 6 ∨ i = 7 ∨ i = 8 ∨ i = 9 ∨ i = 10 ∨ i = 11 ∨ i = 12 ∨ i = 13 ∨ i = 14 ∨ i = 15 ∨ i = 16 ∨ i = 17 ∨ i = 18 ∨ i = 19 ∨ i = 20 ∨ i = 21 ∨ i = 22 ∨ i = 23 := by omega
    · exact fun _ _ _ h _ => h
    · exact fun _ _ _ h _ => h
    · exact fun _ _ _ h _ => h
    · exact fun _ _ _ h _ => h
    · exact fun _ _ _ h _ => h
    · exact fun _ _ _ h _ => h
    · exact fun _ _ _ h _ => h
    · exact fun _ _ _ h _ => h
    · exact fun _ _ _ h _ => h
    · exact fun _ _ _ h _ => h
    · exact fun _ _ _ h _ => h
    · exact fun _ _ _ h _ => h
    · exact fun _ _ _ h _ => h
    · exact fun _ _ _ h _ => h
    · exact fun _ _ _ h _ => h
    · exact fun _ _ _ h _ => h
    · exact fun _ _ _ h _ => h
    · exact fun _ _ _ h _ => h
    · exact fun _ _ _ h _ => h
    · exact fun _ _ _ h _ => h
    · exact fun _ _ _ h _ => h
    · exact fun _ _ _ h _ => h
    · exact fun v x y h k hf => by obtain ⟨g, e1, e2⟩ := h hf; exact ⟨g, e1, e2.ext k⟩
    · exact fun v x y h k => by obtain ⟨hf, g', c', e1, o1, s1⟩ := h; exact ⟨hf, g', c', e1, o1.ext k, s1⟩
  · intro i hi hiM
    obtain rfl | rfl | rfl | rfl | rfl | rfl | rfl | rfl | rfl | rfl | rfl | rfl | rfl | rfl | rfl | rfl | rfl | rfl | rfl | rfl | rfl | rfl | rfl | rfl : i = 0 ∨ i = 1 ∨ i = 2 ∨ i = 3 ∨ i = 4 ∨ i = 5 ∨ i = 6 ∨ i = 7 ∨ i = 8 ∨ i = 9 ∨ i = 10 ∨ i = 11 ∨ i = 12 ∨ i = 13 ∨ i = 14 ∨ i = 15 ∨ i = 16 ∨ i = 17 ∨ i = 18 ∨ i = 19 ∨ i = 20 ∨ i = 21 ∨ i = 22 ∨ i = 23 := by omega
    · exact fun _ _ _ _ h _ => h
    · exact fun _ _ _ _ h _ => h
    · exact fun _ _ _ _ h _ => h
    · exact fun _ _ _ _ h _ => h
    · exact fun _ _ _ _ h _ => h
    · exact fun _ _ _ _ h _ => h
    · exact fun _ _ _ _ h _ => h
    · exact fun _ _ _ _ h _ => h
    · exact fun _ _ _ _ h _ => h
    · exact fun _ _ _ _ h _ => h
    · exact fun _ _ _ _ h _ => h
    · exact fun _ _ _ _ h _ => h
    · exact fun _ _ _ _ h _ => h
    · exact fun _ _ _ _ h _ => h
    · exact fun _ _ _ _ h _ => h
    · exact fun _ _ _ _ h _ => h
    · exact fun _ _ _ _ h _ => h
    · exact fun _ _ _ _ h _ => h
    · exact fun _ _ _ _ h _ => h
    · exact fun _ _ _ _ h _ => h
    · exact fun _ _ _ _ h _ => h
    · exact fun _ _ _ _ h _ => h
    · exact fun v x y _ _ _ hf => by cases hf
    · exact absurd rfl hiM
  · refine ⟨?_, ?_, ?_, ?_, ?_, ?_, ?_, ?_, ?_, ?_, ?_, ?_, ?_, ?_, ?_, ?_, ?_, ?_, ?_, ?_, ?_, ?_, ?_, ?_, trivial⟩
    · rw [if_neg (by decide)]
      rintro fl ρ w1 hw hcst hfn hk
      clear hw
      simp only [known, List.getD_cons_zero, List.getD_cons_succ, Nat.reduceAdd] at hk
      simp only [List.getD_cons_zero, List.getD_cons_succ, Nat.reduceAdd, flowAt]
      go_simp
      exact ⟨Ext.refl _, by first | rfl | trivial⟩
    · rw [if_neg (by decide)]
      rintro fl ρ w1 hw hcst hfn hk
      clear hw
      simp only [known, List.getD_cons_zero, List.getD_cons_succ, Nat.reduceAdd] at hk
      simp only [List.getD_cons_zero, List.getD_cons_succ, Nat.reduceAdd, flowAt]
      go_simp
      exact ⟨Ext.refl _, by first | rfl | trivial⟩
    · rw [if_neg (by decide)]
      rintro fl ρ w1 hw hcst hfn hk
      clear hw
      simp only [known, List.getD_cons_zero, List.getD_cons_succ, Nat.reduceAdd] at hk
      simp only [List.getD_cons_zero, List.getD_cons_succ, Nat.reduceAdd, flowAt]
      go_simp
      exact ⟨Ext.refl _, by first | rfl | trivial⟩
    · rw [if_neg (by decide)]
      rintro fl ρ w1 hw hcst hfn hk
      clear hw
      simp only [known, List.getD_cons_zero, List.getD_cons_succ, Nat.reduceAdd] at hk
      simp only [List.getD_cons_zero, List.getD_cons_succ, Nat.reduceAdd, flowAt]
      go_simp
      exact ⟨Ext.refl _, by first | rfl | trivial⟩
    · rw [if_neg (by decide)]
      rintro fl ρ w1 hw hcst hfn hk
      have c0 := hw.cell (b := r) (o := 2) (v := .slice aq u.length c) (by first | (simp [*]; done) | (simp [*, go_sem]; done) | go_cell) (by first | exact HNR.out | exact HNN.out)
      clear hw
      simp only [known, List.getD_cons_zero, List.getD_cons_succ, Nat.reduceAdd] at hk
      simp only [List.getD_cons_zero, List.getD_cons_succ, Nat.reduceAdd, flowAt]
      go_simp
      exact ⟨Ext.refl _, by first | rfl | trivial⟩
    · rw [if_neg (by decide)]
      rintro fl ρ w1 hw hcst hfn hk
      clear hw
      simp only [known, List.getD_cons_zero, List.getD_cons_succ, Nat.reduceAdd] at hk
      simp only [List.getD_cons_zero, List.getD_cons_succ, Nat.reduceAdd, flowAt]
      go_simp
      exact ⟨Ext.refl _, by first | rfl | trivial⟩
    · rw [if_neg (by decide)]
      rintro fl ρ w1 hw hcst hfn hk
      clear hw
      simp only [known, List.getD_cons_zero, List.getD_cons_succ, Nat.reduceAdd] at hk
      simp only [List.getD_cons_zero, List.getD_cons_succ, Nat.reduceAdd, flowAt]
      go_simp
      exact ⟨Ext.refl _, by first | rfl | trivial⟩
    · rw [if_neg (by decide)]
      rintro fl ρ w1 hw hcst hfn hk
      clear hw
      simp only [known, List.getD_cons_zero, List.getD_cons_succ, Nat.reduceAdd] at hk
      simp only [List.getD_cons_zero, List.getD_cons_succ, Nat.reduceAdd, flowAt]
      go_simp
      exact ⟨Ext.refl _, by first | rfl | trivial⟩
    · rw [if_neg (by decide)]
      rintro fl ρ w1 hw hcst hfn hk
      have c0 := hw.cell (b := r) (o := 0) (v := .slice (some ⟨bN, oN, none⟩) LN.length cN) (by first | (simp [*]; done) | (simp [*, go_sem]; done) | go_cell) (by first | exact HNR.out | exact HNN.out)
      clear hw
      simp only [known, List.getD_cons_zero, List.getD_cons_succ, Nat.reduceAdd] at hk
      simp only [List.getD_cons_zero, List.getD_cons_succ, Nat.reduceAdd, flowAt]
      go_simp
      exact ⟨Ext.refl _, by first | rfl | trivial⟩
    · rw [if_neg (by decide)]
      rintro fl ρ w1 hw hcst hfn hk
      clear hw
      simp only [known, List.getD_cons_zero, List.getD_cons_succ, Nat.reduceAdd] at hk
      simp only [List.getD_cons_zero, List.getD_cons_succ, Nat.reduceAdd, flowAt]
      go_simp
      exact ⟨Ext.refl _, by first | rfl | trivial⟩
    · rw [if_neg (by decide)]
      rintro fl ρ w1 hw hcst hfn hk
      simp only [known, List.getD_cons_zero, List.getD_cons_succ, Nat.reduceAdd] at hk
      simp only [List.getD_cons_zero, List.getD_cons_succ, Nat.reduceAdd, flowAt]
      go_simp
      exact ⟨Ext.refl _, by first | rfl | rw [hq]⟩
    · rw [if_neg (by decide)]
      rintro fl ρ w1 hw hcst hfn hk
      clear hw
      simp only [known, List.getD_cons_zero, List.getD_cons_succ, Nat.reduceAdd] at hk
      simp only [List.getD_cons_zero, List.getD_cons_succ, Nat.reduceAdd, flowAt]
      go_simp
      exact ⟨Ext.refl _, by first | rfl | trivial⟩
    · rw [if_neg (by decide)]
      rintro fl ρ w1 hw hcst hfn hk
      have c0 := hw.cell (b := bN) (o := q) (v := .bool fin) (by first | (simp [*]; done) | (simp [*, go_sem]; done) | go_cell) (by first | exact HNR.out | exact HNN.out)
      clear hw
      simp only [known, List.getD_cons_zero, List.getD_cons_succ, Nat.reduceAdd] at hk
      simp only [List.getD_cons_zero, List.getD_cons_succ, Nat.reduceAdd, flowAt]
      go_simp
      exact ⟨Ext.refl _, by first | rfl | trivial⟩
    · rw [if_neg (by decide)]
      rintro fl ρ w1 hw hcst hfn hk
      clear hw
      simp only [known, List.getD_cons_zero, List.getD_cons_succ, Nat.reduceAdd] at hk
      simp only [List.getD_cons_zero, List.getD_cons_succ, Nat.reduceAdd, flowAt]
      go_simp
      exact ⟨Ext.refl _, by first | rfl | trivial⟩
    · rw [if_neg (by decide)]
      rintro fl ρ w1 hw hcst hfn hk
      clear hw
      simp only [known, List.getD_cons_zero, List.getD_cons_succ, Nat.reduceAdd] at hk
      simp only [List.getD_cons_zero, List.getD_cons_succ, Nat.reduceAdd, flowAt]
      go_simp
      exact ⟨Ext.refl _, by first | rfl | trivial⟩
    · rw [if_neg (by decide)]
      rintro fl ρ w1 hw hcst hfn hk
      clear hw
      simp only [known, List.getD_cons_zero, List.getD_cons_succ, Nat.reduceAdd] at hk
      simp only [List.getD_cons_zero, List.getD_cons_succ, Nat.reduceAdd, flowAt]
      go_simp
      exact ⟨Ext.refl _, by first | rfl | trivial⟩
    · rw [if_neg (by decide)]
      rintro fl ρ w1 hw hcst hfn hk
      have c0 := hw.cell (b := r) (o := 0) (v := .slice (some ⟨bN, oN, none⟩) LN.length cN) (by first | (simp [*]; done) | (simp [*, go_sem]; done) | go_cell) (by first | exact HNR.out | exact HNN.out)
      clear hw
      simp only [known, List.getD_cons_zero, List.getD_cons_succ, Nat.reduceAdd] at hk
      simp only [List.getD_cons_zero, List.getD_cons_succ, Nat.reduceAdd, flowAt]
      go_simp
      exact ⟨Ext.refl _, by first | rfl | trivial⟩
    · rw [if_neg (by decide)]
      rintro fl ρ w1 hw hcst hfn hk
      clear hw
      simp only [known, List.getD_cons_zero, List.getD_cons_succ, Nat.reduceAdd] at hk
      simp only [List.getD_cons_zero, List.getD_cons_succ, Nat.reduceAdd, flowAt]
      go_simp
      exact ⟨Ext.refl _, by first | rfl | trivial⟩
    · rw [if_neg (by decide)]
      rintro fl ρ w1 hw hcst hfn hk
      simp only [known, List.getD_cons_zero, List.getD_cons_succ, Nat.reduceAdd] at hk
      simp only [List.getD_cons_zero, List.getD_cons_succ, Nat.reduceAdd, flowAt]
      go_simp
      exact ⟨Ext.refl _, by first | rfl | rw [hq]⟩
    · rw [if_neg (by decide)]
      rintro fl ρ w1 hw hcst hfn hk
      clear hw
      simp only [known, List.getD_cons_zero, List.getD_cons_succ, Nat.reduceAdd] at hk
      simp only [List.getD_cons_zero, List.getD_cons_succ, Nat.reduceAdd, flowAt]
      go_simp
      exact ⟨Ext.refl _, by first | rfl | trivial⟩
    · rw [if_neg (by decide)]
      rintro fl ρ w1 hw hcst hfn hk
      have c0 := hw.cell (b := bN) (o := q + 1) (v := .string lt) (by first | (simp [*]; done) | (simp [*, go_sem]; done) | go_cell) (by first | exact HNR.out | exact HNN.out)
      clear hw
      simp only [known, List.getD_cons_zero, List.getD_cons_succ, Nat.reduceAdd] at hk
      simp only [List.getD_cons_zero, List.getD_cons_succ, Nat.reduceAdd, flowAt]
      go_simp
      exact ⟨Ext.refl _, by first | rfl | trivial⟩
    · rw [if_neg (by decide)]
      rintro fl ρ w1 hw hcst hfn hk
      clear hw
      simp only [known, List.getD_cons_zero, List.getD_cons_succ, Nat.reduceAdd] at hk
      simp only [List.getD_cons_zero, List.getD_cons_succ, Nat.reduceAdd, flowAt]
      go_simp
      exact ⟨Ext.refl _, by first | rfl | trivial⟩
    · rw [if_neg (by decide)]
      rintro fl ρ w1 hw hcst hfn hk
      simp only [known, List.getD_cons_zero, List.getD_cons_succ, Nat.reduceAdd] at hk
      simp only [List.getD_cons_zero, List.getD_cons_succ, Nat.reduceAdd, flowAt]
      go_simp
      exact ⟨(Ext.refl _).alloc _, fun _ => ⟨w1.heap.size, rfl, rd_of_new rfl [.bool fin, .string lt, .slice none 0 0] _⟩⟩
    · rw [if_pos (by decide)]
      rintro ρ w1 hw hcst hfn hk
      simp only [known, List.getD_cons_zero, List.getD_cons_succ, Nat.reduceAdd] at hk
      simp only [List.getD_cons_zero, List.getD_cons_succ, Nat.reduceAdd]
      (obtain ⟨g, e1, e2⟩ := hk.2.1 (by trivial); exact invAt_appendO (.tmp 21) (.tmp 39) 28 rfl El_nd hk.1 e1 [.bool fin, .string lt, .slice none 0 0] e2 rfl (by omega) (by simp [Value.oneCell']) (HEX.out _ hw) HSH.out (by have := hw.size; have h0 : W1.drew.heap.size = W1.heap.size := rfl; omega) (by unfold maxLen; omega) (by omega) (fun g' c' w' ho hc hs => ⟨hc, by trivial, g', c', rfl, ho, hs.imp id (fun q => Nat.le_trans hw.size q)⟩))
  intro vs w1 hw hf
  simp only [flowFacts, Nat.reduceAdd] at hf
  obtain ⟨e0, e1, e2, e3, e4, e5, e6, e7, e8, e9, e10, e11, e12, e13, e14, e15, e16, e17, e18, e19, e20, e21, e22, e23, -⟩ := hf
  simp only [List.take_succ_cons, List.take_zero, List.drop_succ_cons, List.drop_zero, putAll, Act.put, Nat.reduceAdd, List.setIfInBounds_toArray, List.set_cons_zero, List.set_cons_succ, e0, e1, e2, e3, e4, e5, e6, e7, e8, e9, e10, e11, e12, e13, e14, e15, e16, e17, e18, e19, e20, e21, e22]
  clear e0 e1 e2 e3 e4 e5 e6 e7 e8 e9 e10 e11 e12 e13 e14 e15 e16 e17 e18 e19 e20 e21 e22
  obtain ⟨-, g8, c8, hg8, ho8, hs8⟩ := e23
  rw [hg8]
  have hc8 : Ch (fun b => blkA aq = some b) W1 w1 := (Ch.of_ext _ (Ext.refl W1).drew).trans hw
  have hb8 := HR1.out.ch hc8 HNR.out
  have e2 := hb8.cell (i := 2) rfl
  have ef := hb8.free 2
  have hst := (HM.out.ext HX1.out).step (w1 := W1) (w2 := w1) (k := k) (g' := g8) (c' := c8) HKO.out HC1.out HP1.out (by rw [HGN.out]; exact ho8) hc8 hs8
  obtain ⟨W2, hW2⟩ : ∃ W, w1.setCell ⟨r, 2, none⟩ (.slice (some ⟨g8, 0, none⟩) (u.length + 1) c8) = W := ⟨_, rfl⟩
  rw [hW2] at hst
  have HS9 := hid hst.1
  have HBW2 := hid (HB1.out.trans hst.2)
  clear hst ho8 hs8 hc8 hb8 hw hg8 r0 r1 r2 x0 x1 x2 HEX HNR HNN HSH HR1
  go_wp2_with fail
  try rw [hW2]
  clear hW2 e2 ef
  have hlk : (u ++ [k]).length = u.length + 1 := by simp
  go_loopw [4] (fun v4 wr => ∃ (i : Nat) (aq1 : Option Addr) (c1 : Nat), v4 = .int .i64 (i : Int) ∧ i ≤ nx0.length ∧ Hid (Rk wr B r gP cP (some ⟨bN, oN, none⟩) cN (ndsOf LN) aq1 c1 (ordI (ndsOf LN) f u k i)) ∧ Hid (Below B w wr)) (fun v4 _ => nx0.length - (intOf v4).toNat)
  case atStart => exact ⟨0, some ⟨g8, 0, none⟩, c8, rfl, by omega, hid (by rw [ordI_zero]; exact HS9.out), HBW2⟩
  case round =>
    clear HS9 HBW2 HM1 HC1 HP1
    obtain ⟨i, aq1, c1, rfl, hi, HRK, HBW⟩ := hrel
    have r0 := HRK.out.bx.cell (i := 0) rfl
    have r1 := HRK.out.bx.cell (i := 1) rfl
    rw [hLe] at r0 r1
    obtain ⟨x0, x1, x2⟩ := HNB.out wr HBW.out
    obtain ⟨o1, o2, o3, o4, o5⟩ := HORD.out i
    have hgP2 : gP < wr.heap.size := HRK.out.lo.2.2.2
    by_cases hil : i < nx0.length
    · obtain ⟨bx, ox, rfl, hcx⟩ := ((HR.out wr HBW.out).nx _ HPM.out).int (show 0 < nx0.length by omega)
      have hcj : wr.cell? ⟨bx, ox + i, none⟩ = some (.int .i64 nx0[i]) := hcx i hil
      clear hcx
      obtain ⟨hj0, hjk⟩ := HCHD.out i hil
      obtain ⟨jn, hjn⟩ : ∃ jn : Nat, nx0[i] = (jn : Int) := ⟨(nx0[i]).toNat, (Int.toNat_of_nonneg hj0).symm⟩
      have hos := HOS.out i hil
      rw [hjn] at hcj hj0 hjk hos
      rw [Int.toNat_natCast] at hos
      have hpc : wr.cell? ⟨gP, jn, none⟩ = some (.int .i64 (plc (ordI (ndsOf LN) f u k i) jn)) := by
        obtain ⟨b9, o9, e9, hcl⟩ := HRK.out.pl.rd.int (by rw [plcs_len, hLe]; omega)
        simp only [Option.some.injEq, Addr.mk.injEq, and_true] at e9
        obtain ⟨rfl, rfl⟩ := e9
        have h := hcl jn (by rw [plcs_len, hLe]; omega)
        rw [plcs_at (by rw [hLe]; omega), Nat.zero_add] at h
        exact h
      by_cases hjo : jn ∈ ordI (ndsOf LN) f u k i
      · rw [plc_pos hjo] at hpc
        have hde : ordI (ndsOf LN) f u k (i + 1) = ordI (ndsOf LN) f u k i := by
          rw [hos]
          cases f with
          | zero => omega
          | succ f => rw [dfs, if_pos hjo]
        have HRN : Hid (Rk wr B r gP cP (some ⟨bN, oN, none⟩) cN (ndsOf LN) aq1 c1 (ordI (ndsOf LN) f u k (i + 1))) := hid (by rw [hde]; exact HRK.out)
        obtain ⟨pp, hpp⟩ : ∃ p, (ordI (ndsOf LN) f u k i).idxOf jn = p := ⟨_, rfl⟩
        rw [hpp] at hpc
        have hp0 : ¬ ((pp : Int) < 0) := by omega
        clear hos hde hpp o1 o2 o3 o4 o5
        go_wp2_with fail
        go_roundw
        case rel => exact ⟨i + 1, aq1, c1, by go_num, by omega, HRN, HBW⟩
        case measure => simp [intOf]; omega
      · rw [plc_neg hjo] at hpc
        rw [ndsOf_length] at o2
        have HCALL := hid (HIH.out jn (ordI (ndsOf LN) f u k i) aq1 c1 wr (by omega) (by omega) hjo o1 o2 HRK.out (fun w'' h => HR.out w'' (HBW.out.trans h)))
        rw [← hos] at HCALL
        clear hos o1 o2 o3 o4 o5
        go_wp2_with fail
        with_reducible refine HCALL.out.mono ?_
        rintro e w3 ⟨rfl, aq2, c2, hrk2, hbw2⟩
        have HRN := hid hrk2
        have HBN := hid (HBW.out.trans hbw2)
        clear hrk2 hbw2
        go_wp2_with fail
        go_roundw
        case rel => exact ⟨i + 1, aq2, c2, by go_num, by omega, HRN, HBN⟩
        case measure => simp [intOf]; omega
    · obtain rfl : i = nx0.length := by omega
      go_wp2_with fail
      go_returns
      exact ⟨by first | rfl | trivial, aq1, c1, by rw [← HOA.out]; exact HRK.out, HBW.out⟩
theorem svisit_any (B r gP cP : Nat) (aN : Option Addr) (cN : Nat) (LN : List NdP) (hlen : LN.length ≤ 200000) (hDn : Dn (ndsOf LN)) (hnx : ∀ p ∈ LN, p.nd.nx.length ≤ 100000) (hNB : ∀ p, aN = some p → p.block < B) (f : Nat) : SVisC B r gP cP aN cN LN f := by
  induction f with
  | zero => intro k o aq c w h; omega
  | succ f ih =>
    intro k o aq c w h1 h2 h3 h4 h5 h6 h7
    exact svisit_new B r gP cP aN cN LN f ih hlen hDn hnx hNB k o aq c w h2 (by omega) h3 h4 h5 h6 h7
end Go.Proofs.YtabljchbchjjcaaGreatDoor
