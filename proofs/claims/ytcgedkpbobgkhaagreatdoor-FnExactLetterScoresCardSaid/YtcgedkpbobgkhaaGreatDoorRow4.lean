/- Whole numbers that came in, within a struct. No condition. -/
import Derived.Test.YtcgedkpbobgkhaaGreatDoorRow
import Derived.Test.YtcgedkpbobgkhaaGreatDoorInts
import Derived.ChangeSlices
import Derived.WideShapes
namespace Go.Proofs.YtcgedkpbobgkhaaGreatDoor
open Go Go.ChangeShapes Go.WideShapes Go.ChangeAt Go.RowKit
set_option linter.unusedVariables false
theorem rd_ints {w : World} {a : Addr} {zs : List Int} {len : Nat} (hc : ∀ i, i < zs.length → w.cell? (a.add i) = some (.int .i64 (zs.getD i 0))) : Rd w (some a) (intsV (zs.take len)) := by
  intro j u hj
  have hjl : j < (zs.take len).length := by
    have := (List.getElem?_eq_some_iff.1 hj).1
    simpa [intsV] using this
  have hj' : j < zs.length := by rw [List.length_take] at hjl; omega
  have h := hc j hj'
  obtain ⟨b, o, spot⟩ := a
  have hspot := World.cell?_spot (hc 0 (by omega))
  have hu : u = .int .i64 (zs.getD j 0) := by
    rw [intsV_get _ j hjl] at hj
    cases hj
    simp [List.getD_eq_getElem?_getD, hj']
  have hs : spot = none := by simpa [Addr.add] using hspot
  subst hs
  refine ⟨b, o, rfl, ?_⟩
  rw [hu]
  by_cases hj0 : j = 0
  · subst hj0; simpa [Addr.add] using h
  · simpa [Addr.add, hj0] using h
section
variable {H : Type} {enc : TypeId × Value → H} {P : Program} {w : World} {base : Nat} {held : Bool}
theorem leaf_ints {t e : TypeId} {n : Nat} {v : Value} {y : DataW H × List MemPlace} (ht : P.underlying t = some (.slice e)) (he : P.underlying e = some (.int .i64)) (hc : P.cellsOf e = 1)
    (h : DataW.trod enc P w base (fun _ => true) held n t [v] = some y) :
    ∃ (a : Option Addr) (c : Nat) (l : List Int), v = .slice a l.length c ∧ Rd w a (intsV l) ∧ l.length ≤ maxLen := by
  rcases open_ints ht he hc h with ⟨h2, _⟩ | ⟨a', len', cap', zs, h2, _, hl, hm, hlen, _, hcell, hsm⟩
  · simp only [List.cons.injEq, and_true] at h2
    exact ⟨none, 0, [], h2, Rd.nil _ _, by simp⟩
  · simp only [List.cons.injEq, and_true] at h2
    simp at hlen
    have hll : (zs.take len').length = len' := by simp; omega
    exact ⟨some a', cap', zs.take len', by rw [hll]; exact h2, rd_ints hcell, by omega⟩
end
end Go.Proofs.YtcgedkpbobgkhaaGreatDoor
