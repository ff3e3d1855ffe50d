/- Several texts in one: Ch06e, Bld, ShelfW, ShelfT. Conditions: see each. -/
import Derived.Test.YtabljchbchjjcaaGreatDoorCh06b
import Derived.Test.YtabljchbchjjcaaGreatDoorMg5
import Derived.Test.YtabljchbchjjcaaGreatDoorBase
import Derived.Shelf.Strings.BuilderK
import Derived.Test.YtabljchbchjjcaaGreatDoorProg
section
namespace Go.Proofs.YtabljchbchjjcaaGreatDoor
set_option linter.unusedVariables false
set_option linter.unusedSimpArgs false
open Go Go.RowKit
/-- What the table of numbers tells. -/
def IMap (D : DataW Unit) (o : List Nat) : Prop := Maps.IsMap D ∧ ∀ k : Nat, Maps.has D (.int .i64 (k : Int)) = decide (k ∈ o) ∧ (k ∈ o → D.atKey (.int .i64 (k : Int)) (.lit (.int .i64 0)) = .lit (.int .i64 (o.idxOf k : Nat)))
theorem IMap.nil : IMap (.map []) [] := ⟨⟨[], rfl⟩, fun k => ⟨rfl, fun h => by simp at h⟩⟩
theorem IMap.put {D : DataW Unit} {o : List Nat} (h : IMap D o) {k : Nat} (hk : k ∉ o) : IMap (D.put (.int .i64 (k : Int)) (.lit (.int .i64 (o.length : Nat)))) (o ++ [k]) := by
  refine ⟨h.1.put _ _, fun j => ?_⟩
  by_cases e : j = k
  · subst e
    have hkl : WideAt.IsKeyLit (.int .i64 (j : Int)) := trivial
    refine ⟨?_, fun _ => ?_⟩
    · rw [Maps.has_put_same h.1 hkl]; simp
    · rw [Maps.atKey_put_same h.1 hkl, idxOf_new hk]
  · have hne : (Lit.int .i64 (j : Int)) ≠ .int .i64 (k : Int) := fun he => by
      injection he with _ he
      exact e (by omega)
    obtain ⟨k1, k2⟩ := h.2 j
    rw [Maps.has_put_other hne, k1, Maps.atKey_put_other hne]
    refine ⟨by simp [e], fun q => ?_⟩
    have q2 : j ∈ o := by simpa [e] using q
    rw [idxOf_pre (List.prefix_append _ _) q2]
    exact k2 q2
theorem Own.setIn {w : World} {B : Nat} {e : TypeId} {size g n c : Nat} {xs : List Value} (h : Own w B e size (some ⟨g, 0, none⟩) n c xs) (i : Nat) (hi : i < xs.length) (u : Value) : Own (w.setCell ⟨g, i, none⟩ u) B e size (some ⟨g, 0, none⟩) n c (xs.set i u) := by
  rcases h with ⟨_, _, rfl⟩ | ⟨h1, h2⟩
  · simp at hi
  · rcases h2 with ⟨hv, _⟩ | ⟨g', cap, cur, hv, hg, hh, hle, hcm, hcs, htk⟩
    · cases hv
    · simp only [Value.slice.injEq, Option.some.injEq, Addr.mk.injEq, and_true, true_and] at hv
      obtain ⟨rfl, rfl⟩ := hv
      have hlt := (Array.getElem?_eq_some_iff.1 hh).1
      refine .inr ⟨by rw [List.length_set]; exact h1, .inr ⟨g, c, cur.setIfInBounds i u, rfl, hg, ?_, hle, hcm, by rw [Array.size_setIfInBounds]; exact hcs, ?_⟩⟩
      · have h' : w.heap[g] = .cells cur e (0, 0) := by simpa [Array.getElem?_eq_getElem hlt] using hh
        show (w.heap.modify g _)[g]? = _
        rw [Array.getElem?_eq_getElem (by simpa using hlt), Array.getElem_modify_self, h']
        rfl
      · rw [Array.toList_setIfInBounds, List.take_set, htk]
theorem ndsV_set : ∀ (L : List NdP) (i : Nat) (p : NdP), i < L.length → p.nd.fin = (ndAt L i).nd.fin → p.nd.lt = (ndAt L i).nd.lt → ndsV (L.set i p) = (ndsV L).set (i * 3 + 2) (.slice p.a p.nd.nx.length p.c)
  | [], i, p, h, _, _ => by simp at h
  | a :: t, 0, p, h, h1, h2 => by
    have h1' : p.nd.fin = a.nd.fin := h1
    have h2' : p.nd.lt = a.nd.lt := h2
    simp [ndsV, h1', h2']
  | a :: t, i + 1, p, h, h1, h2 => by
    have e2 : ndAt (a :: t) (i + 1) = ndAt t i := by simp [ndAt]
    rw [e2] at h1 h2
    have := ndsV_set t i p (by simpa using h) h1 h2
    have e : ∀ l : List NdP, ndsV (a :: l) = .bool a.nd.fin :: .string a.nd.lt :: .slice a.a a.nd.nx.length a.c :: ndsV l := fun l => by simp [ndsV]
    rw [List.set_cons_succ, e, e, this, show (i + 1) * 3 + 2 = i * 3 + 2 + 1 + 1 + 1 by omega]
    rfl
section
variable {w : World} {B m mp : Nat} {T : TypeId} {vs : List Value} {A : Nat → Prop} {g c : Nat} {L : List NdP}
/-- A list is put into the node at place i. -/
theorem Mk.setNx (h : Mk w B m mp T vs A (some ⟨g, 0, none⟩) c L) (i : Nat) (p : NdP) (hi : i < L.length) (h1 : p.nd.fin = (ndAt L i).nd.fin) (h2 : p.nd.lt = (ndAt L i).nd.lt) (hr : Rd w p.a (intsV p.nd.nx))
    (hp : 0 < p.nd.nx.length → ∀ q, p.a = some q → q.block < w.heap.size ∧ q.block ≠ m ∧ q.block ≠ mp ∧ ¬ A q.block ∧ g ≠ q.block) :
    Mk (w.setCell ⟨g, i * 3 + 2, none⟩ (.slice p.a p.nd.nx.length p.c)) B m mp T vs A (some ⟨g, 0, none⟩) c (L.set i p) := by
  have hch := Ch.set w g (i * 3 + 2) (.slice p.a p.nd.nx.length p.c)
  obtain ⟨q1, q2, q3, q4⟩ := h.aqm _ rfl
  simp only at q1 q2 q3 q4
  have key : ∀ q ∈ L.set i p, Rd w q.a (intsV q.nd.nx) ∧ (0 < q.nd.nx.length → ∀ r, q.a = some r → r.block < w.heap.size ∧ r.block ≠ m ∧ r.block ≠ mp ∧ ¬ A r.block ∧ g ≠ r.block) := by
    intro q hq
    rcases List.mem_or_eq_of_mem_set hq with hq | rfl
    · refine ⟨h.rd q hq, fun hn r e => ?_⟩
      obtain ⟨k1, k2, k3, k4, k5⟩ := h.ap q hq hn r e
      exact ⟨k1, k2, k3, k4, fun s => k5 (by simp [blkA, s])⟩
    · exact ⟨hr, hp⟩
  refine ⟨?_, ?_, .inr ⟨g, rfl⟩, Nat.lt_of_lt_of_le h.lt hch.size, h.lo, fun q e => ?_, h.aql, h.am, fun q hq => ?_, fun q hq hn r e => ?_⟩
  · rw [List.length_set]
    exact h.bx.ch hch (fun e => q2 e.symm)
  · rw [List.length_set, ndsV_set L i p hi h1 h2]
    exact h.own.setIn _ (by rw [ndsV_length]; omega) _
  · exact ⟨Nat.lt_of_lt_of_le (h.aqm q e).1 hch.size, (h.aqm q e).2⟩
  · exact hch.rd (key q hq).1 (fun r e hn s => ((key q hq).2 (by simpa [ints_len] using hn) r e).2.2.2.2 s.symm)
  · obtain ⟨k1, k2, k3, k4, k5⟩ := (key q hq).2 hn r e
    exact ⟨Nat.lt_of_lt_of_le k1 hch.size, k2, k3, k4, fun s => k5 (by simpa [blkA] using s)⟩
end
end Go.Proofs.YtabljchbchjjcaaGreatDoor
end
section
namespace Go.Proofs.YtabljchbchjjcaaGreatDoor
set_option linter.unusedVariables false
set_option linter.unusedSimpArgs false
open Go Go.RowKit
theorem bldr_below {T e : TypeId} {B b : Nat} {bs : List Value} {w w' : World} (h : Lib.IsBuilderF T e B b bs w) (hx : Ext w w') : Lib.IsBuilderF T e B b bs w' := by
  have k : ∀ p, Lib.BuilderAtF T e B b p bs w → Lib.BuilderAtF T e B b p bs w' := by
    intro p hp
    have hlt := hp.lt
    obtain ⟨h1, v, h2, h3, h4⟩ := hp
    refine ⟨h1, v, by rw [hx.below.block b hlt]; exact h2, ?_, h4⟩
    obtain ⟨g1, g2⟩ := h3
    refine ⟨g1, ?_⟩
    rcases g2 with g2 | ⟨g, cap, cur, fr, hv, hg, hh, r⟩
    · exact .inl g2
    · exact .inr ⟨g, cap, cur, fr, hv, hg, by rw [hx.below.block g (Array.getElem?_eq_some_iff.1 hh).1]; exact hh, r⟩
  rcases h with h | h
  · exact .inl (k _ h)
  · exact .inr (k _ h)
end Go.Proofs.YtabljchbchjjcaaGreatDoor
end
section
namespace Go.Proofs
open Go.Shelf
def Tryz.laysH167_ren : Go.Shelf.Ren := ⟨fun | 167 => 45 | 240 => 65 | 276 => 89 | n => n, fun | 0 => 0 | 4 => 4 | 5 => 5 | 9 => 9 | 20 => 20 | 37 => 22 | 70 => 78 | 72 => 80 | 75 => 82 | 80 => 63 | 164 => 136 | n => n, fun | n => n⟩
theorem Tryz.laysH167 : Go.Proofs.Lays.n167 Tryz.prog Tryz.laysH167_ren := {
  mixed := by kernel_rfl
  f167 := Tryz.func45.trans (congrArg some (by kernel_rfl))
  f240 := Tryz.func65.trans (congrArg some (by kernel_rfl))
  f276 := Tryz.func89.trans (congrArg some (by kernel_rfl))
  t0 := Tryz.underlying0
  a0 := Tryz.isAgg0
  z0 := Tryz.sizeOf0
  v0 := Tryz.zeroValue0
  t4 := Tryz.underlying4
  a4 := Tryz.isAgg4
  z4 := Tryz.sizeOf4
  v4 := Tryz.zeroValue4
  t5 := Tryz.underlying5
  a5 := Tryz.isAgg5
  z5 := Tryz.sizeOf5
  v5 := Tryz.zeroValue5
  t9 := Tryz.underlying9
  a9 := Tryz.isAgg9
  z9 := Tryz.sizeOf9
  v9 := Tryz.zeroValue9
  t20 := Tryz.underlying20
  a20 := Tryz.isAgg20
  z20 := Tryz.sizeOf20
  v20 := Tryz.zeroValue20
  t37 := Tryz.underlying22
  a37 := Tryz.isAgg22
  z37 := Tryz.sizeOf22
  v37 := Tryz.zeroValue22
  t70 := Tryz.underlying78
  a70 := Tryz.isAgg78
  z70 := Tryz.sizeOf78
  v70 := Tryz.zeroValue78
  t72 := Tryz.underlying80
  a72 := Tryz.isAgg80
  z72 := Tryz.sizeOf80
  v72 := Tryz.zeroValue80
  t75 := Tryz.underlying82
  a75 := Tryz.isAgg82
  z75 := Tryz.sizeOf82
  v75 := Tryz.zeroValue82
  t164 := Tryz.underlying136
  a164 := Tryz.isAgg136
  z164 := Tryz.sizeOf136
  v164 := Tryz.zeroValue136 }
theorem Tryz.Builder_Extra_H167 : Builder.Extra Tryz.prog Tryz.laysH167_ren := {
  sizeBuilder := by kernel_rfl
  liesBuilder := by kernel_rfl
  t5 := Tryz.underlying5
  a5 := Tryz.isAgg5
  z5 := Tryz.sizeOf5
  v5 := Tryz.zeroValue5
  infoByte := by kernel_rfl
  cellsByte := by kernel_rfl
  sizeByte := by kernel_rfl
  neB5 := by decide }
def Tryz.laysH169_ren : Go.Shelf.Ren := ⟨fun | 169 => 46 | n => n, fun | 0 => 0 | 3 => 3 | 5 => 5 | 9 => 9 | 37 => 22 | 70 => 78 | 72 => 80 | 127 => 114 | n => n, fun | n => n⟩
theorem Tryz.laysH169 : Go.Proofs.Lays.n169 Tryz.prog Tryz.laysH169_ren := {
  mixed := by kernel_rfl
  f169 := Tryz.func46.trans (congrArg some (by kernel_rfl))
  t0 := Tryz.underlying0
  a0 := Tryz.isAgg0
  z0 := Tryz.sizeOf0
  v0 := Tryz.zeroValue0
  t3 := Tryz.underlying3
  a3 := Tryz.isAgg3
  z3 := Tryz.sizeOf3
  v3 := Tryz.zeroValue3
  t9 := Tryz.underlying9
  a9 := Tryz.isAgg9
  z9 := Tryz.sizeOf9
  v9 := Tryz.zeroValue9
  t37 := Tryz.underlying22
  a37 := Tryz.isAgg22
  z37 := Tryz.sizeOf22
  v37 := Tryz.zeroValue22
  t70 := Tryz.underlying78
  a70 := Tryz.isAgg78
  z70 := Tryz.sizeOf78
  v70 := Tryz.zeroValue78
  t72 := Tryz.underlying80
  a72 := Tryz.isAgg80
  z72 := Tryz.sizeOf80
  v72 := Tryz.zeroValue80
  t127 := Tryz.underlying114
  a127 := Tryz.isAgg114
  z127 := Tryz.sizeOf114
  v127 := Tryz.zeroValue114 }
theorem Tryz.Builder_Extra_H169 : Builder.Extra Tryz.prog Tryz.laysH169_ren := {
  sizeBuilder := by kernel_rfl
  liesBuilder := by kernel_rfl
  t5 := Tryz.underlying5
  a5 := Tryz.isAgg5
  z5 := Tryz.sizeOf5
  v5 := Tryz.zeroValue5
  infoByte := by kernel_rfl
  cellsByte := by kernel_rfl
  sizeByte := by kernel_rfl
  neB5 := by decide }
end Go.Proofs
end
section
namespace Go.Proofs
open Go.Shelf
def Tryz.laysH166_ren : Go.Shelf.Ren := ⟨fun | 166 => 73 | 240 => 65 | 276 => 89 | n => n, fun | 0 => 0 | 3 => 3 | 4 => 4 | 5 => 5 | 9 => 9 | 20 => 20 | 37 => 22 | 70 => 78 | 72 => 80 | 75 => 82 | 80 => 63 | 164 => 136 | n => n, fun | n => n⟩
theorem Tryz.laysH166 : Go.Proofs.Lays.n166 Tryz.prog Tryz.laysH166_ren := {
  mixed := by kernel_rfl
  f166 := Tryz.func73.trans (congrArg some (by kernel_rfl))
  f240 := Tryz.func65.trans (congrArg some (by kernel_rfl))
  f276 := Tryz.func89.trans (congrArg some (by kernel_rfl))
  t0 := Tryz.underlying0
  a0 := Tryz.isAgg0
  z0 := Tryz.sizeOf0
  v0 := Tryz.zeroValue0
  t3 := Tryz.underlying3
  a3 := Tryz.isAgg3
  z3 := Tryz.sizeOf3
  v3 := Tryz.zeroValue3
  t4 := Tryz.underlying4
  a4 := Tryz.isAgg4
  z4 := Tryz.sizeOf4
  v4 := Tryz.zeroValue4
  t9 := Tryz.underlying9
  a9 := Tryz.isAgg9
  z9 := Tryz.sizeOf9
  v9 := Tryz.zeroValue9
  t20 := Tryz.underlying20
  a20 := Tryz.isAgg20
  z20 := Tryz.sizeOf20
  v20 := Tryz.zeroValue20
  t37 := Tryz.underlying22
  a37 := Tryz.isAgg22
  z37 := Tryz.sizeOf22
  v37 := Tryz.zeroValue22
  t70 := Tryz.underlying78
  a70 := Tryz.isAgg78
  z70 := Tryz.sizeOf78
  v70 := Tryz.zeroValue78
  t72 := Tryz.underlying80
  a72 := Tryz.isAgg80
  z72 := Tryz.sizeOf80
  v72 := Tryz.zeroValue80
  t75 := Tryz.underlying82
  a75 := Tryz.isAgg82
  z75 := Tryz.sizeOf82
  v75 := Tryz.zeroValue82
  t164 := Tryz.underlying136
  a164 := Tryz.isAgg136
  z164 := Tryz.sizeOf136
  v164 := Tryz.zeroValue136 }
theorem Tryz.Builder_Extra_H166 : Builder.Extra Tryz.prog Tryz.laysH166_ren := {
  sizeBuilder := by kernel_rfl
  liesBuilder := by kernel_rfl
  t5 := Tryz.underlying5
  a5 := Tryz.isAgg5
  z5 := Tryz.sizeOf5
  v5 := Tryz.zeroValue5
  infoByte := by kernel_rfl
  cellsByte := by kernel_rfl
  sizeByte := by kernel_rfl
  neB5 := by decide }
end Go.Proofs
end
