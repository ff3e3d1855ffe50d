/- Several texts in one: Row, Row2, RowB, RowD. Conditions: see each. -/
import Derived.Test.YtlnccdbmchjhlaaDoorBase
import Derived.ProofKit
import Derived.OpenShut
import Derived.ShutString
import Derived.ChangeOld
import Derived.Below
import Derived.Lib.SmallJoins
import Derived.Test.YtlnccdbmchjhlaaDoorLex
import Derived.SliceStrings
import Derived.Test.YtlnccdbmchjhlaaDoorTie
import Derived.Test.YtlnccdbmchjhlaaDoorCards
import Derived.PinnedBridge
import Derived.Lay
import Derived.LaidMore
import Derived.SevenTiedAt
import Derived.Lib.LaidU8
import Derived.Test.YtlnccdbmchjhlaaDoorCh06a
import Derived.Stop.LaidErr
import Derived.Lib.LaidTab
section
namespace Go.Proofs.YtlnccdbmchjhlaaDoor
open Go Go.ChangeShapes Go.WideShapes Go.ChangeAt Go.RowKit
set_option linter.unusedVariables false
theorem ownRow : ownKnob Tryd.prog.godebug = none := by kernel_rfl
theorem laidRow : laidOutB Tryd.prog = true := by kernel_rfl
/-- An integer that came in fits its kind. -/
theorem wf_i64 {a : Int} (h : (Lit.int .i64 a).wf = true) : -9223372036854775808 ≤ a ∧ a ≤ 9223372036854775807 := by
  simp only [Lit.wf, Bool.and_eq_true, decide_eq_true_eq] at h
  exact h
theorem wf_u8 {a : Int} (h : (Lit.int .u8 a).wf = true) : 0 ≤ a ∧ a < 256 := by
  simp only [Lit.wf, Bool.and_eq_true, decide_eq_true_eq] at h
  obtain ⟨h1, h2⟩ := h
  have h3 : a ≤ 255 := h2
  exact ⟨h1, by omega⟩
end Go.Proofs.YtlnccdbmchjhlaaDoor
end
section
namespace Go.Proofs.YtlnccdbmchjhlaaDoor
open Go Go.ChangeShapes Go.WideShapes Go.ChangeAt Go.RowKit Go.Deep
set_option linter.unusedVariables false
theorem rd_strings {w : World} {a : Addr} {ss : List ByteArray} {len : Nat} (hc : ∀ i, i < ss.length → w.cell? (a.add i) = some (.string (ss.getD i ByteArray.empty))) : Rd w (some a) (strsV (ss.take len)) := by
  intro j u hj
  have hj' : j < ss.length := by
    have := (List.getElem?_eq_some_iff.1 hj).1
    rw [strsV_length] at this
    simp at this
    omega
  have h := hc j hj'
  obtain ⟨b, o, spot⟩ := a
  have hspot := World.cell?_spot (hc 0 (by omega))
  have hu : u = .string (ss.getD j ByteArray.empty) := by
    have hl : j < (ss.take len).length := by
      have := (List.getElem?_eq_some_iff.1 hj).1
      rwa [strsV_length] at this
    rw [strsV_get _ j hl] at hj
    cases hj
    simp [List.getD_eq_getElem?_getD, hj']
  have hs : spot = none := by simpa [Addr.add] using hspot
  subst hs
  refine ⟨b, o, rfl, ?_⟩
  rw [hu]
  by_cases hj0 : j = 0
  · subst hj0; simpa [Addr.add] using h
  · simpa [Addr.add, hj0] using h
section
variable {H : Type} {enc : TypeId × Value → H} {P : Program} {w : World} {base : Nat} {held : Bool}
theorem open_lex {r : Reach} {b0 : Nat} {t e : TypeId} {f0 : Field} {v : Value} {d : DataW H} {p : List MemPlace} (hs : P.underlying t = some (.struct #[f0])) (hone : oneCellFields P #[f0] = true) (hC : P.cellsOf t = 1)
    (hf : P.underlying f0.type = some (.slice e)) (he : P.underlying e = some .string) (hc : P.cellsOf e = 1)
    (hv : Value.okWide P w r b0 t v) (h : DataW.Trod enc P w base (fun _ => true) held t v d p) :
    ∃ (a : Option Addr) (c : Nat) (l : List ByteArray), v = lexV a l.length c ∧ Rd w a (strsV l) ∧ l.length ≤ maxLen ∧ ∀ s ∈ l, s.size ≤ maxLen := by
  obtain ⟨cs, rfl, hsz⟩ := okWide_struct hs hv
  obtain ⟨c0, rfl⟩ : ∃ c0, cs = #[c0] := by
    obtain ⟨l⟩ := cs
    match l, hsz.trans hC with
    | [c0], _ => exact ⟨c0, rfl⟩
  obtain ⟨fuel, hf'⟩ := h
  obtain ⟨y0, n, hx, _, h0⟩ := trod_struct1 hs hf'
  obtain ⟨o0, k0⟩ := hone_of hone 0 f0 rfl
  have h1 : DataW.trod enc P w base (fun _ => true) held n f0.type [c0] = some y0 := by simpa [Value.cells, o0, k0] using h0
  rcases open_strings hf he hc h1 with ⟨h2, _⟩ | ⟨a, len, cap, ss, h2, _, hl, hm, hlen, _, hcell, hsm⟩
  · cases h2
    exact ⟨none, 0, [], rfl, Rd.nil _ _, by simp, by simp⟩
  · cases h2
    simp at hlen
    refine ⟨some a, cap, ss.take len, ?_, rd_strings hcell, by simp; omega, fun s hs => hsm s (List.mem_of_mem_take hs)⟩
    have : (ss.take len).length = len := by simp; omega
    rw [this]
end
end Go.Proofs.YtlnccdbmchjhlaaDoor
end
section
namespace Go.Proofs.YtlnccdbmchjhlaaDoor
end Go.Proofs.YtlnccdbmchjhlaaDoor
end
section
namespace Go.Proofs.YtlnccdbmchjhlaaDoor
open Go Go.ChangeShapes Go.WideShapes Go.ChangeAt Go.RowKit Go.Lib
set_option linter.unusedVariables false
set_option maxRecDepth 100000
theorem powD_eq : (Rows.laid_internal_strconv_uint64pow10 : DataW Unit) = Lib.tabData .u64 Lib.pow10Tab := by kernel_rfl
theorem tabF_of {W : World} {a b : String × DataW Unit} {r : List (String × DataW Unit)}
    (h : laidMet Tryd.prog (a :: b :: ("internal/strconv.uint64pow10", Rows.laid_internal_strconv_uint64pow10) :: r) W) : TabF W := by
  have h3 := h.tail.tail
  rw [powD_eq] at h3
  exact Lib.tabIs_of_head (g := 0) (t := 137) (e := 107) (n := 20) (by kernel_rfl) (by kernel_rfl) Tryd.underlying137 Tryd.underlying107 (by kernel_rfl) (by kernel_rfl) h3
end Go.Proofs.YtlnccdbmchjhlaaDoor
end
