/- Numbering by the program. Conditions: at most 200000 nodes, each of at most 100000 edges. -/
import Derived.Test.YtlnccdbmchjhlaaDoorCh06f
import Derived.Laws.EntriesVeiled
import Derived.WideMake
import Derived.Maps.Own
namespace Go.Proofs.YtlnccdbmchjhlaaDoor
set_option linter.unusedVariables false
set_option linter.unusedSimpArgs false
open Go Go.RowKit
theorem MkRd.ext {w w' : World} {mk : Nat} {aN : Option Addr} {cN : Nat} {LN : List NdP} (h : MkRd w mk aN cN LN) (k : Ext w w') : MkRd w' mk aN cN LN := ⟨k.cell h.cell, h.row.ext k, fun p hp => (h.nx p hp).ext k⟩
/-- An automaton of the call's own comes back. -/
def RetDw (l : List Nd) (w : World) (e : Ending) (w' : World) : Prop := ∃ g c L, ndsOf L = l ∧ 0 < L.length ∧ e = .returned (dawgV (some ⟨g, 0, none⟩) L.length c) ∧ DgW w.heap.size w'.heap.size w' g L ∧ Ext w w'
set_option maxRecDepth 100000 in
set_option maxHeartbeats 8000000 in
theorem numbered_any (mk : Nat) (aN : Option Addr) (cN : Nat) (LN : List NdP) (root : Nat) (w : World) (h : MkRd w mk aN cN LN) (hr : root < LN.length) (hlen : LN.length ≤ 200000) (hDn : Dn (ndsOf LN)) (hnx : ∀ p ∈ LN, p.nd.nx.length ≤ 100000) :
    Calls Tryd.prog 35 #[.pointer (some ⟨mk, 0, none⟩), .int .i64 (root : Int)] w (RetDw (numb (ndsOf LN) root) w) := by
  have HV := hid (fun (f nb db nm mb vb : Nat) (hnm : nm ≠ db) => nvisit_any w.heap.size nb db nm mb mk vb hnm aN cN LN hlen hDn hnx f)
  have hmm := @run_makeMap Tryd.prog
  go_enter Tryd.func35, Tryd.ntmps35
  go_wp2_with fail
  obtain ⟨W, hW⟩ : ∃ W, ((((((w.alloc (.cells #[.pointer (some ⟨mk, 0, none⟩)] 52)).alloc (.cells #[.slice none 0 0] 28)).alloc (.map #[] 0)).alloc (.cells #[.slice none 0 0] 28)).alloc (.cells #[.map (some (w.heap.size + 1 + 1))] 74)).alloc (.cells #[nvisV (w.heap.size + 1 + 1 + 1 + 1) (w.heap.size + 1 + 1 + 1) w.heap.size (w.heap.size + 1 + 1 + 1 + 1 + 1)] 75)) = W := ⟨_, rfl⟩
  have HW := hid hW
  rw [hW]
  clear hW hmm
  have hEW : Ext w W := by rw [← HW.out]; exact ((((((Ext.refl w).alloc _).alloc _).alloc _).alloc _).alloc _).alloc _
  have hsW : W.heap.size = w.heap.size + 6 := by rw [← HW.out]; simp
  have hbx : Bx W (w.heap.size + 1 + 1 + 1) 28 [.slice none 0 0] := by
    rw [← HW.out]
    have h3 := Bx.new (((w.alloc (.cells #[.pointer (some ⟨mk, 0, none⟩)] 52)).alloc (.cells #[.slice none 0 0] 28)).alloc (.map #[] 0)) 28 [.slice none 0 0]
    simp only [World.size_alloc] at h3
    exact h3.ext (((Ext.refl _).alloc _).alloc _)
  have hnum : NumOk (w.heap.size + 1 + 1) W [] := by
    have h2 := World.ownsMap_made ((w.alloc (.cells #[.pointer (some ⟨mk, 0, none⟩)] 52)).alloc (.cells #[.slice none 0 0] 28)) Tryd.prog 2 (plainElem (H := Unit) Tryd.prog 2)
    simp only [World.size_alloc] at h2
    have h3 : NumOk (w.heap.size + 1 + 1) (((w.alloc (.cells #[.pointer (some ⟨mk, 0, none⟩)] 52)).alloc (.cells #[.slice none 0 0] 28)).alloc (.map #[] 0)) [] := ⟨0, _, Nat.le_refl _, h2, IMap.nil⟩
    rw [← HW.out]
    exact h3.ext ((((Ext.refl _).alloc _).alloc _).alloc _)
  have hnb : NBox W (w.heap.size + 1 + 1 + 1 + 1) (w.heap.size + 1 + 1) w.heap.size mk (w.heap.size + 1 + 1 + 1 + 1 + 1) (w.heap.size + 1 + 1 + 1) := by
    rw [← HW.out]
    exact ⟨by go_cell, by go_cell, by go_cell⟩
  have r0 : W.cell? ⟨w.heap.size + 1, 0, none⟩ = some (.slice none 0 0) := by rw [← HW.out]; go_cell
  have rf : W.frozen? ⟨w.heap.size + 1, 0, none⟩ = false := by rw [← HW.out]; go_cell
  have hmk : MkD W w.heap.size (w.heap.size + 1 + 1 + 1) (w.heap.size + 1 + 1) (fun b => b = w.heap.size ∨ b = w.heap.size + 1 ∨ b = w.heap.size + 4 ∨ b = w.heap.size + 5) none 0 [] :=
    ⟨hbx, Own.empty _ _ _ _ _, .inl ⟨rfl, rfl, rfl, rfl⟩, by omega, ⟨by omega, by omega⟩, fun p e => (by cases e), fun p e => (by cases e), ⟨by omega, by omega⟩, fun p hp => (by simp at hp), fun p hp => (by simp at hp)⟩
  clear HW
  refine (HV.out LN.length (w.heap.size + 1 + 1 + 1 + 1) (w.heap.size + 1 + 1 + 1) (w.heap.size + 1 + 1) w.heap.size (w.heap.size + 1 + 1 + 1 + 1 + 1) (by omega) root [] _ none 0 [] W hr hr List.nodup_nil (by simp) hmk rfl hnum List.Pairwise.nil (fun p hp => by simp at hp) hnb (.inr (.inr (.inl rfl))) (.inl rfl) (.inr (.inr (.inr rfl))) (fun b hb => by omega) (by omega) (fun w' hb => h.ext (Ext.of (Below.trans hEW.below hb)))).mono ?_
  rintro e w1 ⟨rfl, aq', c', M, hMk, hnds, hnum', hap, hno, hst⟩
  rw [List.nil_append] at hMk hap hno
  obtain ⟨o, ho⟩ : ∃ o, dfs (ndsOf LN) LN.length [] root = o := ⟨_, rfl⟩
  have hro : root ∈ o := by
    obtain ⟨f, hf⟩ : ∃ f, LN.length = f + 1 := ⟨LN.length - 1, by omega⟩
    rw [← ho, hf]
    exact dfs_mem _ _ _ _
  rw [ho] at hnds hnum' ⊢
  have hnb2 : ndsOf M = numb (ndsOf LN) root := by
    rw [hnds]
    unfold metN numb
    rw [ndsOf_length, ho]
    rfl
  have hpos : 0 < M.length := by
    rw [← ndsOf_length, hnds]
    unfold metN
    rw [List.length_map, List.length_drop]
    have := List.length_pos_of_mem hro
    simpa using this
  obtain ⟨g, rfl⟩ : ∃ g, aq' = some ⟨g, 0, none⟩ := by
    rcases hMk.sh with ⟨-, h, -⟩ | h
    · omega
    · exact h
  have d0 := hMk.bx.cell (i := 0) rfl
  have hkr : ¬ Kq (w.heap.size + 1 + 1 + 1) (w.heap.size + 1 + 1) none (w.heap.size + 1) := by
    rintro (e | e | e)
    · omega
    · omega
    · simp [blkA] at e
  replace r0 := hst.ch.cell r0 hkr
  have rf' : w1.frozen? ⟨w.heap.size + 1, 0, none⟩ = false := by
    rw [← rf]
    have := hst.ch.block (w.heap.size + 1) (by omega) hkr
    simp only [World.frozen?, this]
  have hE1 : Ext w w1 := ((Ch.of_ext _ hEW).next hst.ch (J := Kq (w.heap.size + 1 + 1 + 1) (w.heap.size + 1 + 1) none) (K := fun _ => False) (fun b hb e => by
    rcases e with e | e | e
    · omega
    · omega
    · simp [blkA] at e)).ext (by simp)
  obtain ⟨g0, e9, k1, k2, k3, k4⟩ := hMk.own.form hpos
  simp only [Option.some.injEq, Addr.mk.injEq, and_true] at e9
  subst e9
  have hgr : w.heap.size + 1 ≠ g := fun e => (hMk.aqm _ rfl).2.2.2 (.inr (.inl e.symm))
  have hdw : DgW w.heap.size w1.heap.size (w1.setCell ⟨w.heap.size + 1, 0, none⟩ (.slice (some ⟨g, 0, none⟩) M.length c')) g M := by
    have hnn := hMk.nxo hno (Ch.set w1 (w.heap.size + 1) 0 (.slice (some ⟨g, 0, none⟩) M.length c')) (fun b e => .inr (.inr (.inl e)))
    refine ⟨(Wr.ofk k4).other hgr, k1, k2, fun p hp => ?_, fun p hp hn q e h => (hMk.ap p hp hn q e).2.2.2.2 (by simp [blkA, h]), hap⟩
    have := hnn p hp
    simpa [World.setCell] using this
  have HDW := hid hdw
  have HE1 := hid hE1
  have HNB := hid hnb2
  clear hst hMk hnds hnum' hap hno hdw hE1 hnb2 k1 k2 k3 k4 ho hro
  go_wp2_with fail
  refine bodyPost_ret (v := dawgV (some ⟨g, 0, none⟩) M.length c') ?_ rfl ⟨g, c', M, HNB.out, hpos, rfl, ?_, HE1.out.setCell (by show w.heap.size ≤ w.heap.size + 1; omega) _⟩
  · simp [results, Tryd.results35, go_sem, r0, rf']
  · simpa [World.setCell] using HDW.out
end Go.Proofs.YtlnccdbmchjhlaaDoor
