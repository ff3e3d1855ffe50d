/- The table of numbers; a list put into a node that stands already. No condition. -/
import Derived.Test.YtlnccdbmchjhlaaDoorCh06b
import Derived.Test.YtlnccdbmchjhlaaDoorDwN
namespace Go.Proofs.YtlnccdbmchjhlaaDoor
set_option linter.unusedVariables false
set_option linter.unusedSimpArgs false
open Go Go.RowKit
/-- What the table of numbers tells. -/
def IMap (D : DataW Unit) (o : List Nat) : Prop := Maps.IsMap D ∧ ∀ k : Nat, Maps.has D (.int .i64 (k : Int)) = decide (k ∈ o) ∧ (k ∈ o → D.atKey (.int .i64 (k : Int)) (.lit (.int .i64 0)) = .lit (.int .i64 (o.idxOf k : Nat)))
theorem IMap.nil : IMap (.map []) [] := ⟨⟨[], rfl⟩, fun k => ⟨rfl, fun h => by simp at h⟩⟩
theorem IMap.put {D : DataW Unit} {o : List Nat} (h : IMap D o) {k : Nat} (hk : k ∉ o) : IMap (D.put (.int .i64 (k : Int)) (.lit (.int .i64 (o.length : Nat)))) (o ++ [k]) := by
  refine ⟨h.1.put _ _, fun j => ?_⟩
  by_cases e : j = k
  · subst e
    have hkl : WideAt.IsKeyLit (.int .i64 (j : Int)) := trivial
    refine ⟨?_, fun _ => ?_⟩
    · rw [Maps.has_put_same h.1 hkl]; simp
    · rw [Maps.atKey_put_same h.1 hkl, idxOf_new hk]
  · have hne : (Lit.int .i64 (j : Int)) ≠ .int .i64 (k : Int) := fun he => by
      injection he with _ he
      exact e (by omega)
    obtain ⟨k1, k2⟩ := h.2 j
    rw [Maps.has_put_other hne, k1, Maps.atKey_put_other hne]
    refine ⟨by simp [e], fun q => ?_⟩
    have q2 : j ∈ o := by simpa [e] using q
    rw [idxOf_pre (List.prefix_append _ _) q2]
    exact k2 q2
def NumOk (nm : Nat) (w : World) (o : List Nat) : Prop := ∃ k D, k ≤ o.length ∧ w.ownsMap Tryd.prog 2 (plainElem (H := Unit) Tryd.prog 2) nm k D ∧ IMap D o
theorem NumOk.ch {nm : Nat} {w w' : World} {o : List Nat} {K : Nat → Prop} (h : NumOk nm w o) (k : Ch K w w') (hm : ¬ K nm) : NumOk nm w' o := by
  obtain ⟨n, D, h1, h2, h3⟩ := h
  exact ⟨n, D, h1, k.map h2 hm, h3⟩
theorem NumOk.ext {nm : Nat} {w w' : World} {o : List Nat} (h : NumOk nm w o) (k : Ext w w') : NumOk nm w' o := h.ch (Ch.of_ext (fun _ => False) k) (by simp)
theorem Own.setIn {w : World} {B : Nat} {e : TypeId} {size g n c : Nat} {xs : List Value} (h : Own w B e size (some ⟨g, 0, none⟩) n c xs) (i : Nat) (hi : i < xs.length) (u : Value) : Own (w.setCell ⟨g, i, none⟩ u) B e size (some ⟨g, 0, none⟩) n c (xs.set i u) := by
  rcases h with ⟨_, _, rfl⟩ | ⟨h1, h2⟩
  · simp at hi
  · rcases h2 with ⟨hv, _⟩ | ⟨g', cap, cur, hv, hg, hh, hle, hcm, hcs, htk⟩
    · cases hv
    · simp only [Value.slice.injEq, Option.some.injEq, Addr.mk.injEq, and_true, true_and] at hv
      obtain ⟨rfl, rfl⟩ := hv
      have hlt := (Array.getElem?_eq_some_iff.1 hh).1
      refine .inr ⟨by rw [List.length_set]; exact h1, .inr ⟨g, c, cur.setIfInBounds i u, rfl, hg, ?_, hle, hcm, by rw [Array.size_setIfInBounds]; exact hcs, ?_⟩⟩
      · have h' : w.heap[g] = .cells cur e (0, 0) := by simpa [Array.getElem?_eq_getElem hlt] using hh
        show (w.heap.modify g _)[g]? = _
        rw [Array.getElem?_eq_getElem (by simpa using hlt), Array.getElem_modify_self, h']
        rfl
      · rw [Array.toList_setIfInBounds, List.take_set, htk]
theorem ndsV_set : ∀ (L : List NdP) (i : Nat) (p : NdP), i < L.length → p.nd.fin = (ndAt L i).nd.fin → p.nd.lt = (ndAt L i).nd.lt → ndsV (L.set i p) = (ndsV L).set (i * 3 + 2) (.slice p.a p.nd.nx.length p.c)
  | [], i, p, h, _, _ => by simp at h
  | a :: t, 0, p, h, h1, h2 => by
    have h1' : p.nd.fin = a.nd.fin := h1
    have h2' : p.nd.lt = a.nd.lt := h2
    simp [ndsV, h1', h2']
  | a :: t, i + 1, p, h, h1, h2 => by
    have e2 : ndAt (a :: t) (i + 1) = ndAt t i := by simp [ndAt]
    rw [e2] at h1 h2
    have := ndsV_set t i p (by simpa using h) h1 h2
    have e : ∀ l : List NdP, ndsV (a :: l) = .bool a.nd.fin :: .string a.nd.lt :: .slice a.a a.nd.nx.length a.c :: ndsV l := fun l => by simp [ndsV]
    rw [List.set_cons_succ, e, e, this, show (i + 1) * 3 + 2 = i * 3 + 2 + 1 + 1 + 1 by omega]
    rfl
section
variable {w : World} {B m mp : Nat} {T : TypeId} {vs : List Value} {A : Nat → Prop} {g c : Nat} {L : List NdP}
/-- A list is put into the node at place i. -/
theorem Mk.setNx (h : Mk w B m mp T vs A (some ⟨g, 0, none⟩) c L) (i : Nat) (p : NdP) (hi : i < L.length) (h1 : p.nd.fin = (ndAt L i).nd.fin) (h2 : p.nd.lt = (ndAt L i).nd.lt) (hr : Rd w p.a (intsV p.nd.nx))
    (hp : 0 < p.nd.nx.length → ∀ q, p.a = some q → q.block < w.heap.size ∧ q.block ≠ m ∧ q.block ≠ mp ∧ ¬ A q.block ∧ g ≠ q.block) :
    Mk (w.setCell ⟨g, i * 3 + 2, none⟩ (.slice p.a p.nd.nx.length p.c)) B m mp T vs A (some ⟨g, 0, none⟩) c (L.set i p) := by
  have hch := Ch.set w g (i * 3 + 2) (.slice p.a p.nd.nx.length p.c)
  obtain ⟨q1, q2, q3, q4⟩ := h.aqm _ rfl
  simp only at q1 q2 q3 q4
  have key : ∀ q ∈ L.set i p, Rd w q.a (intsV q.nd.nx) ∧ (0 < q.nd.nx.length → ∀ r, q.a = some r → r.block < w.heap.size ∧ r.block ≠ m ∧ r.block ≠ mp ∧ ¬ A r.block ∧ g ≠ r.block) := by
    intro q hq
    rcases List.mem_or_eq_of_mem_set hq with hq | rfl
    · refine ⟨h.rd q hq, fun hn r e => ?_⟩
      obtain ⟨k1, k2, k3, k4, k5⟩ := h.ap q hq hn r e
      exact ⟨k1, k2, k3, k4, fun s => k5 (by simp [blkA, s])⟩
    · exact ⟨hr, hp⟩
  refine ⟨?_, ?_, .inr ⟨g, rfl⟩, Nat.lt_of_lt_of_le h.lt hch.size, h.lo, fun q e => ?_, h.aql, h.am, fun q hq => ?_, fun q hq hn r e => ?_⟩
  · rw [List.length_set]
    exact h.bx.ch hch (fun e => q2 e.symm)
  · rw [List.length_set, ndsV_set L i p hi h1 h2]
    exact h.own.setIn _ (by rw [ndsV_length]; omega) _
  · exact ⟨Nat.lt_of_lt_of_le (h.aqm q e).1 hch.size, (h.aqm q e).2⟩
  · exact hch.rd (key q hq).1 (fun r e hn s => ((key q hq).2 (by simpa [ints_len] using hn) r e).2.2.2.2 s.symm)
  · obtain ⟨k1, k2, k3, k4, k5⟩ := (key q hq).2 hn r e
    exact ⟨Nat.lt_of_lt_of_le k1 hch.size, k2, k3, k4, fun s => k5 (by simpa [blkA] using s)⟩
end
end Go.Proofs.YtlnccdbmchjhlaaDoor
