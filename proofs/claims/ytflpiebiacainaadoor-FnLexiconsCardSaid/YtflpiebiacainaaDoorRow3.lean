/- Bytes that came in. No condition. -/
import Derived.Test.YtflpiebiacainaaDoorRow
import Derived.Test.YtflpiebiacainaaDoorBytes
import Derived.ChangeSlices
import Derived.WideShapes
namespace Go.Proofs.YtflpiebiacainaaDoor
open Go Go.ChangeShapes Go.WideShapes Go.ChangeAt Go.RowKit
set_option linter.unusedVariables false
def u8s (zs : List Int) : List UInt8 := zs.map fun z => UInt8.ofNat z.toNat
theorem rd_u8s {w : World} {a : Addr} {zs : List Int} {len : Nat} (hw : ∀ n ∈ zs, (Lit.int .u8 n).wf = true) (hc : ∀ i, i < zs.length → w.cell? (a.add i) = some (.int .u8 (zs.getD i 0))) : Rd w (some a) (bytesV (u8s (zs.take len))) := by
  intro j u hj
  have hjl : j < (zs.take len).length := by
    have := (List.getElem?_eq_some_iff.1 hj).1
    simpa [bytesV, u8s] using this
  have hj' : j < zs.length := by rw [List.length_take] at hjl; omega
  have h := hc j hj'
  obtain ⟨b, o, spot⟩ := a
  have hspot := World.cell?_spot (hc 0 (by omega))
  have hz : zs.getD j 0 = zs[j] := by simp [List.getD_eq_getElem?_getD, hj']
  obtain ⟨z0, z1⟩ := wf_u8 (hw zs[j] (List.getElem_mem hj'))
  have hu : u = .int .u8 (zs.getD j 0) := by
    have e : (bytesV (u8s (zs.take len)))[j]? = some (.int .u8 ((UInt8.ofNat zs[j].toNat).toNat : Int)) := by
      have hjl2 : j < len ∧ j < zs.length := by rw [List.length_take] at hjl; omega
      simp [bytesV, u8s, hjl2.1, hj']
    rw [e] at hj
    cases hj
    rw [hz]
    congr 1
    simp
    omega
  have hs : spot = none := by simpa [Addr.add] using hspot
  subst hs
  refine ⟨b, o, rfl, ?_⟩
  rw [hu]
  by_cases hj0 : j = 0
  · subst hj0; simpa [Addr.add] using h
  · simpa [Addr.add, hj0] using h
section
variable {H : Type} {enc : TypeId × Value → H} {P : Program} {w : World} {base : Nat} {held : Bool}
theorem open_code {r : Reach} {b0 : Nat} {t e : TypeId} {v : Value} {d : DataW H} {p : List MemPlace} (ht : P.underlying t = some (.slice e)) (he : P.underlying e = some (.int .u8)) (hc : P.cellsOf e = 1)
    (hv : Value.okWide P w r b0 t v) (h : DataW.Trod enc P w base (fun _ => true) held t v d p) :
    ∃ (a : Option Addr) (c : Nat) (l : List UInt8), v = .slice a l.length c ∧ Rd w a (bytesV l) ∧ l.length ≤ maxLen := by
  obtain ⟨a, len, cap, rfl⟩ := okWide_slice ht hv
  obtain ⟨fuel, hf⟩ := h
  have hf' : DataW.trod enc P w base (fun _ => true) held fuel t [.slice a len cap] = some (d, p) := by simpa [Value.cells] using hf
  rcases open_ints ht he hc hf' with ⟨h2, _⟩ | ⟨a', len', cap', zs, h2, _, hl, hm, hlen, _, hcell, hsm⟩
  · simp only [List.cons.injEq, Value.slice.injEq, and_true] at h2
    obtain ⟨rfl, rfl, rfl⟩ := h2
    exact ⟨none, 0, [], rfl, Rd.nil _ _, by simp⟩
  · simp only [List.cons.injEq, Value.slice.injEq, and_true] at h2
    obtain ⟨rfl, rfl, rfl⟩ := h2
    simp at hlen
    refine ⟨some a', cap, u8s (zs.take len), ?_, rd_u8s hsm hcell, by simp [u8s]; omega⟩
    have : (u8s (zs.take len)).length = len := by simp [u8s]; omega
    rw [this]
end
end Go.Proofs.YtflpiebiacainaaDoor
