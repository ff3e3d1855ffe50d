/- An automaton that came in. No condition. -/
import Derived.Test.YtlnccdbmchjhlaaRow4
import Derived.Test.YtlnccdbmchjhlaaDg
import Derived.Deep.Strs
namespace Go.Proofs.Ytlnccdbmchjhlaa
open Go Go.ChangeShapes Go.WideShapes Go.ChangeAt Go.RowKit Go.Deep
set_option linter.unusedVariables false
theorem list_of {α : Type} (Q : Nat → α → Prop) : ∀ n, (∀ i, i < n → ∃ p, Q i p) → ∃ L : List α, L.length = n ∧ ∀ i p, L[i]? = some p → Q i p
  | 0, _ => ⟨[], rfl, fun i p h => by simp at h⟩
  | n + 1, h => by
    obtain ⟨L, hl, hq⟩ := list_of Q n (fun i hi => h i (by omega))
    obtain ⟨p, hp⟩ := h n (by omega)
    refine ⟨L ++ [p], by simp [hl], fun i q hi => ?_⟩
    by_cases e : i < n
    · rw [List.getElem?_append_left (by omega)] at hi
      exact hq i q hi
    · have hlt := (List.getElem?_eq_some_iff.1 hi).1
      simp only [List.length_append, List.length_cons, List.length_nil, hl] at hlt
      obtain rfl : i = n := by omega
      rw [List.getElem?_append_right (by omega), hl, Nat.sub_self] at hi
      simp only [List.getElem?_cons_zero, Option.some.injEq] at hi
      subst hi
      exact hp
theorem add_off {b o : Nat} (j : Nat) : (⟨b, o, none⟩ : Addr).add j = ⟨b, o + j, none⟩ := by
  unfold Addr.add; split <;> simp_all
section
variable {H : Type} {enc : TypeId × Value → H} {P : Program} {w : World} {base : Nat} {held : Bool}
theorem leaf_ints0 {t e : TypeId} {n : Nat} {v : Value} {y : DataW H × List MemPlace} (ht : P.underlying t = some (.slice e)) (he : P.underlying e = some (.int .i64)) (hc : P.cellsOf e = 1)
    (h : DataW.trod enc P w base (fun _ => true) held n t [v] = some y) :
    ∃ (a : Option Addr) (c : Nat) (l : List Int), v = .slice a l.length c ∧ Rd w a (intsV l) ∧ l.length ≤ maxLen := leaf_ints ht he hc h
theorem open_nodes {t e : TypeId} {f0 f1 f2 : Field} {fe : TypeId} {fuel : Nat} {a : Option Addr} {len cap : Nat} {x : DataW H × List MemPlace} (ht : P.underlying t = some (.slice e)) (he : P.underlying e = some (.struct #[f0, f1, f2])) (hone : oneCellFields P #[f0, f1, f2] = true) (hC : P.cellsOf e = 3)
    (h0 : P.underlying f0.type = some .bool) (h1 : P.underlying f1.type = some .string) (h2 : P.underlying f2.type = some (.slice fe)) (hi : P.underlying fe = some (.int .i64)) (hci : P.cellsOf fe = 1)
    (h : DataW.trod enc P w base (fun _ => true) held fuel t [.slice a len cap] = some x) :
    ∃ L : List NdP, len = L.length ∧ DgRd w a L ∧ L.length ≤ maxLen ∧ ∀ p ∈ L, p.nd.lt.size ≤ maxLen ∧ p.nd.nx.length ≤ maxLen := by
  rcases DataW.trod_slice ht h with ⟨h3, _⟩ | ⟨a', len', cap', elems, rest, n, _, h3, rfl, hb, hl, hm, hlen, hel, _, _⟩
  · simp only [List.cons.injEq, Value.slice.injEq, and_true] at h3
    obtain ⟨rfl, rfl, rfl⟩ := h3
    exact ⟨[], rfl, ⟨Rd.nil _ _, fun p hp => by simp at hp⟩, by simp, by simp⟩
  · simp only [List.cons.injEq, Value.slice.injEq, and_true] at h3
    obtain ⟨rfl, rfl, rfl⟩ := h3
    obtain ⟨o0, k0⟩ := hone_of hone 0 f0 rfl
    obtain ⟨o1, k1⟩ := hone_of hone 1 f1 rfl
    obtain ⟨o2, k2⟩ := hone_of hone 2 f2 rfl
    have each : ∀ i, i < len → ∃ p : NdP, (w.cell? (a'.add (i * 3)) = some (.bool p.nd.fin) ∧ w.cell? ((a'.add (i * 3)).add 1) = some (.string p.nd.lt) ∧ w.cell? ((a'.add (i * 3)).add 2) = some (.slice p.a p.nd.nx.length p.c)) ∧ Rd w p.a (intsV p.nd.nx) ∧ p.nd.lt.size ≤ maxLen ∧ p.nd.nx.length ≤ maxLen := by
      intro i hi'
      have hy := hel i hi'
      rw [hC, List.getElem?_eq_getElem (by omega), Option.bind_eq_some_iff] at hy
      obtain ⟨cs, hcs, hy⟩ := hy
      obtain ⟨_, hcl, hcc⟩ := World.cells?_some hcs
      obtain ⟨y0, y1, y2, m, _, _, g0, g1, g2⟩ := trod_struct3 he hy
      obtain ⟨v0, v1, v2, rfl⟩ : ∃ v0 v1 v2, cs = [v0, v1, v2] := by
        match cs, hcl with
        | [v0, v1, v2], _ => exact ⟨v0, v1, v2, rfl⟩
      rw [o0, k0] at g0
      rw [o1, k1] at g1
      rw [o2, k2] at g2
      obtain ⟨f, e0, _⟩ := DataW.trod_bool h0 g0
      obtain ⟨s, e1, _, hs⟩ := DataW.trod_string h1 g1
      obtain ⟨pa, pc, nx, e2, hr, hnl⟩ := leaf_ints0 (v := v2) h2 hi hci (by simpa using g2)
      simp at e0 e1
      subst e0
      subst e1
      subst e2
      refine ⟨⟨⟨f, s, nx⟩, pa, pc⟩, ⟨?_, ?_, ?_⟩, hr, hs, hnl⟩
      · have := hcc 0 (by omega); simpa [Addr.add] using this
      · have := hcc 1 (by omega); simpa using this
      · have := hcc 2 (by omega); simpa using this
    obtain ⟨L, hLl, hQ⟩ := list_of _ len each
    have hspot : 0 < len → a'.spot = none := fun hi' => by
      obtain ⟨p, ⟨hp, _⟩, _⟩ := each 0 hi'
      have := World.cell?_spot hp
      simpa [Addr.add] using this
    refine ⟨L, hLl.symm, ⟨?_, ?_⟩, by omega, ?_⟩
    · intro j u hj
      have hjl := (List.getElem?_eq_some_iff.1 hj).1
      rw [ndsV_length] at hjl
      obtain ⟨b, o, spot⟩ := a'
      have hs : spot = none := hspot (by omega)
      subst hs
      refine ⟨b, o, rfl, ?_⟩
      obtain ⟨k, hk3⟩ : ∃ k, j = k * 3 ∨ j = k * 3 + 1 ∨ j = k * 3 + 2 := ⟨j / 3, by omega⟩
      have hk : k < L.length := by omega
      obtain ⟨⟨x0, x1, x2⟩, _⟩ := hQ k (ndAt L k) (by rw [List.getElem?_eq_getElem hk, ndAt_eq L _ hk])
      obtain ⟨n0, n1, n2⟩ := ndsV_get L k hk
      rw [add_off] at x0
      rw [add_off, add_off] at x1 x2
      rcases hk3 with rfl | rfl | rfl
      · rw [n0] at hj
        cases hj
        exact x0
      · rw [n1] at hj
        cases hj
        rw [← Nat.add_assoc]
        exact x1
      · rw [n2] at hj
        cases hj
        rw [← Nat.add_assoc]
        exact x2
    · intro p hp
      obtain ⟨i, hi'⟩ := List.getElem?_of_mem hp
      exact (hQ i p hi').2.1
    · intro p hp
      obtain ⟨i, hi'⟩ := List.getElem?_of_mem hp
      exact (hQ i p hi').2.2
theorem open_dawg {r : Reach} {b0 : Nat} {t e : TypeId} {g0 : Field} {f0 f1 f2 : Field} {fe : TypeId} {v : Value} {d : DataW H} {p : List MemPlace} (hs : P.underlying t = some (.struct #[g0])) (hone1 : oneCellFields P #[g0] = true) (hC1 : P.cellsOf t = 1)
    (ht : P.underlying g0.type = some (.slice e)) (he : P.underlying e = some (.struct #[f0, f1, f2])) (hone : oneCellFields P #[f0, f1, f2] = true) (hC : P.cellsOf e = 3)
    (h0 : P.underlying f0.type = some .bool) (h1 : P.underlying f1.type = some .string) (h2 : P.underlying f2.type = some (.slice fe)) (hi : P.underlying fe = some (.int .i64)) (hci : P.cellsOf fe = 1)
    (hv : Value.okWide P w r b0 t v) (h : DataW.Trod enc P w base (fun _ => true) held t v d p) :
    ∃ (a : Option Addr) (c : Nat) (L : List NdP), v = dawgV a L.length c ∧ DgRd w a L ∧ L.length ≤ maxLen ∧ ∀ p ∈ L, p.nd.lt.size ≤ maxLen ∧ p.nd.nx.length ≤ maxLen := by
  obtain ⟨cs, rfl, hsz⟩ := okWide_struct hs hv
  obtain ⟨c0, rfl⟩ : ∃ c0, cs = #[c0] := by
    obtain ⟨l⟩ := cs
    match l, hsz.trans hC1 with
    | [c0], _ => exact ⟨c0, rfl⟩
  obtain ⟨fuel, hf'⟩ := h
  obtain ⟨y0, n, hx, _, g0'⟩ := trod_struct1 hs hf'
  obtain ⟨o0, k0⟩ := hone_of hone1 0 g0 rfl
  have h3 : DataW.trod enc P w base (fun _ => true) held n g0.type [c0] = some y0 := by simpa [Value.cells, o0, k0] using g0'
  obtain ⟨a, len, cap, rfl⟩ : ∃ a len cap, c0 = .slice a len cap := by
    rcases DataW.trod_slice ht h3 with ⟨h4, _⟩ | ⟨a', len', cap', _, _, _, _, h4, _⟩
    · exact ⟨none, 0, 0, by simpa using h4⟩
    · exact ⟨some a', len', cap', by simpa using h4⟩
  obtain ⟨L, rfl, h5, h6, h7⟩ := open_nodes ht he hone hC h0 h1 h2 hi hci h3
  exact ⟨a, cap, L, rfl, h5, h6, h7⟩
end
end Go.Proofs.Ytlnccdbmchjhlaa
