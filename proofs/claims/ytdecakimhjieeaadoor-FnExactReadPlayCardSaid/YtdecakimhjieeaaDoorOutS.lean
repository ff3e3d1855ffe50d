/- A list of strings that grows by append, with its block known; rows beside it. No condition. -/
import Derived.Test.YtdecakimhjieeaaDoorAppS
import Derived.Test.YtdecakimhjieeaaDoorStrs
namespace Go.Proofs.YtdecakimhjieeaaDoor
set_option linter.unusedVariables false
set_option linter.unusedSimpArgs false
open Go Go.RowKit
def Out (w : World) (B g c : Nat) (T : List ByteArray) : Prop := Own w B 9 1 (some ⟨g, 0, none⟩) T.length c (strsV T) ∧ B ≤ g ∧ g < w.heap.size
theorem Out.ext {w w' : World} {B g c : Nat} {T : List ByteArray} (h : Out w B g c T) (k : Ext w w') : Out w' B g c T := ⟨h.1.ext k, h.2.1, Nat.lt_of_lt_of_le h.2.2 k.size⟩
theorem Out.nil (w : World) (B g : Nat) (h1 : B ≤ g) (h2 : g < w.heap.size) : Out w B g 0 [] := ⟨Own.empty _ _ _ _ _, h1, h2⟩
theorem Out.push {w w' : World} {B g c g' c' : Nat} {T : List ByteArray} {x : ByteArray} (h : Out w B g c T) (ho : Own w' B 9 1 (some ⟨g', 0, none⟩) (T.length + 1) c' (strsV T ++ [.string x])) : Out w' B g' c' (T ++ [x]) := by
  obtain ⟨g9, e, h1, h2, -, -⟩ := ho.form (by omega)
  simp only [Option.some.injEq, Addr.mk.injEq, and_true] at e
  subst e
  refine ⟨?_, h1, h2⟩
  rw [List.length_append, strsV_append]
  exact ho
/-- A row of strings in a block. -/
def Rq (w : World) (q : Nat) (Q : List ByteArray) : Prop := Rd w (some ⟨q, 0, none⟩) (strsV Q) ∧ q < w.heap.size
theorem Rq.ext {w w' : World} {q : Nat} {Q : List ByteArray} (h : Rq w q Q) (k : Ext w w') : Rq w' q Q := ⟨h.1.ext k, Nat.lt_of_lt_of_le h.2 k.size⟩
theorem Rq.push {w w' : World} {q g : Nat} {Q : List ByteArray} (h : Rq w q Q) (k : w.grownBy w' (some g)) (hne : q ≠ g) : Rq w' q Q := ⟨h.1.grownBy k h.2 (by simpa using hne), Nat.lt_of_lt_of_le h.2 k.size⟩
theorem Rq.at {w : World} {q : Nat} {Q : List ByteArray} (h : Rq w q Q) (j : Nat) (hj : j < Q.length) : w.cell? ⟨q, j, none⟩ = some (.string Q[j]) := by
  obtain ⟨b, o, e, hc⟩ := h.1 j (.string Q[j]) (strsV_get Q j hj)
  simp only [Option.some.injEq, Addr.mk.injEq, and_true] at e
  obtain ⟨rfl, rfl⟩ := e
  simpa using hc
theorem Rq.of {w w' : World} {B : Nat} {a : Option Addr} {n c : Nat} {Q : List ByteArray} (h : Own w B 9 1 a n c (strsV Q)) (hn : 0 < n) : ∃ q, a = some ⟨q, 0, none⟩ ∧ B ≤ q ∧ Rq w q Q := by
  obtain ⟨g, e, h1, h2, -, -⟩ := h.form hn
  subst e
  exact ⟨g, rfl, h1, h.rd, h2⟩
theorem ext_pushed {w w' w'' : World} {g : Nat} (k : Ext w w') (h : w'.grownBy w'' (some g)) (hg : w.heap.size ≤ g) : Ext w w'' := Below.grown k h k.size (fun j hj => by cases hj; exact hg)
theorem sep_ne {w : World} {q g g' : Nat} (hq : q < w.heap.size) (hne : q ≠ g) (h : g' = g ∨ w.heap.size ≤ g') : q ≠ g' := by
  rcases h with h | h <;> omega
end Go.Proofs.YtdecakimhjieeaaDoor
