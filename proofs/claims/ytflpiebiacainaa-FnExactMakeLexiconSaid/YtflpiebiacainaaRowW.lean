/- A list of words that came in. No condition. -/
import Derived.Test.YtflpiebiacainaaRow2
namespace Go.Proofs.Ytflpiebiacainaa
open Go Go.ChangeShapes Go.WideShapes Go.ChangeAt Go.RowKit Go.Deep
set_option linter.unusedVariables false
section
variable {H : Type} {enc : TypeId × Value → H} {P : Program} {w : World} {base : Nat} {held : Bool}
theorem open_words {r : Reach} {b0 : Nat} {t e : TypeId} {v : Value} {d : DataW H} {p : List MemPlace} (ht : P.underlying t = some (.slice e)) (he : P.underlying e = some .string) (hc : P.cellsOf e = 1)
    (hv : Value.okWide P w r b0 t v) (h : DataW.Trod enc P w base (fun _ => true) held t v d p) :
    ∃ (a : Option Addr) (c : Nat) (l : List ByteArray), v = .slice a l.length c ∧ Rd w a (strsV l) ∧ l.length ≤ maxLen ∧ ∀ s ∈ l, s.size ≤ maxLen := by
  obtain ⟨a, len, cap, rfl⟩ := okWide_slice ht hv
  obtain ⟨fuel, hf⟩ := h
  have hf' : DataW.trod enc P w base (fun _ => true) held fuel t [.slice a len cap] = some (d, p) := by simpa [Value.cells] using hf
  rcases open_strings ht he hc hf' with ⟨h2, _⟩ | ⟨a', len', cap', ss, h2, _, hl, hm, hlen, _, hcell, hsm⟩
  · simp only [List.cons.injEq, Value.slice.injEq, and_true] at h2
    obtain ⟨rfl, rfl, rfl⟩ := h2
    exact ⟨none, 0, [], rfl, Rd.nil _ _, by simp, by simp⟩
  · simp only [List.cons.injEq, Value.slice.injEq, and_true] at h2
    obtain ⟨rfl, rfl, rfl⟩ := h2
    simp at hlen
    refine ⟨some a', cap, ss.take len, ?_, rd_strings hcell, by simp; omega, fun s hs => hsm s (List.mem_of_mem_take hs)⟩
    have : (ss.take len).length = len := by simp; omega
    rw [this]
end
end Go.Proofs.Ytflpiebiacainaa
