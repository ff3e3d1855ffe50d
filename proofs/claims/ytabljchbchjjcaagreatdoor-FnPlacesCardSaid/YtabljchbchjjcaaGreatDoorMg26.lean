/- Several texts in one: Row, Row2, RowB, RowD, Row3. Conditions: see each. -/
import Derived.Test.YtabljchbchjjcaaGreatDoorBase
import Derived.ProofKit
import Derived.OpenShut
import Derived.ShutString
import Derived.ChangeOld
import Derived.Below
import Derived.Lib.SmallJoins
import Derived.Test.YtabljchbchjjcaaGreatDoorMg10
import Derived.SliceStrings
import Derived.Test.YtabljchbchjjcaaGreatDoorTie
import Derived.Test.YtabljchbchjjcaaGreatDoorCards
import Derived.PinnedBridge
import Derived.Lay
import Derived.LaidMore
import Derived.SevenTiedAt
import Derived.Lib.LaidU8
import Derived.Test.YtabljchbchjjcaaGreatDoorCh06a
import Derived.Stop.LaidErr
import Derived.Lib.LaidTab
import Derived.Test.YtabljchbchjjcaaGreatDoorMg1
import Derived.ChangeSlices
import Derived.WideShapes
section
namespace Go.Proofs.YtabljchbchjjcaaGreatDoor
open Go Go.ChangeShapes Go.WideShapes Go.ChangeAt Go.RowKit
set_option linter.unusedVariables false
theorem ownRow : ownKnob Tryz.prog.godebug = none := by kernel_rfl
theorem laidRow : laidOutB Tryz.prog = true := by kernel_rfl
/-- An integer that came in fits its kind. -/
theorem wf_i64 {a : Int} (h : (Lit.int .i64 a).wf = true) : -9223372036854775808 ≤ a ∧ a ≤ 9223372036854775807 := by
  simp only [Lit.wf, Bool.and_eq_true, decide_eq_true_eq] at h
  exact h
theorem wf_u8 {a : Int} (h : (Lit.int .u8 a).wf = true) : 0 ≤ a ∧ a < 256 := by
  simp only [Lit.wf, Bool.and_eq_true, decide_eq_true_eq] at h
  obtain ⟨h1, h2⟩ := h
  have h3 : a ≤ 255 := h2
  exact ⟨h1, by omega⟩
end Go.Proofs.YtabljchbchjjcaaGreatDoor
end
section
namespace Go.Proofs.YtabljchbchjjcaaGreatDoor
open Go Go.ChangeShapes Go.WideShapes Go.ChangeAt Go.RowKit Go.Deep
set_option linter.unusedVariables false
theorem rd_strings {w : World} {a : Addr} {ss : List ByteArray} {len : Nat} (hc : ∀ i, i < ss.length → w.cell? (a.add i) = some (.string (ss.getD i ByteArray.empty))) : Rd w (some a) (strsV (ss.take len)) := by
  intro j u hj
  have hj' : j < ss.length := by
    have := (List.getElem?_eq_some_iff.1 hj).1
    rw [strsV_length] at this
    simp at this
    omega
  have h := hc j hj'
  obtain ⟨b, o, spot⟩ := a
  have hspot := World.cell?_spot (hc 0 (by omega))
  have hu : u = .string (ss.getD j ByteArray.empty) := by
    have hl : j < (ss.take len).length := by
      have := (List.getElem?_eq_some_iff.1 hj).1
      rwa [strsV_length] at this
    rw [strsV_get _ j hl] at hj
    cases hj
    simp [List.getD_eq_getElem?_getD, hj']
  have hs : spot = none := by simpa [Addr.add] using hspot
  subst hs
  refine ⟨b, o, rfl, ?_⟩
  rw [hu]
  by_cases hj0 : j = 0
  · subst hj0; simpa [Addr.add] using h
  · simpa [Addr.add, hj0] using h
section
variable {H : Type} {enc : TypeId × Value → H} {P : Program} {w : World} {base : Nat} {held : Bool}
theorem open_lex {r : Reach} {b0 : Nat} {t e : TypeId} {f0 : Field} {v : Value} {d : DataW H} {p : List MemPlace} (hs : P.underlying t = some (.struct #[f0])) (hone : oneCellFields P #[f0] = true) (hC : P.cellsOf t = 1)
    (hf : P.underlying f0.type = some (.slice e)) (he : P.underlying e = some .string) (hc : P.cellsOf e = 1)
    (hv : Value.okWide P w r b0 t v) (h : DataW.Trod enc P w base (fun _ => true) held t v d p) :
    ∃ (a : Option Addr) (c : Nat) (l : List ByteArray), v = lexV a l.length c ∧ Rd w a (strsV l) ∧ l.length ≤ maxLen ∧ ∀ s ∈ l, s.size ≤ maxLen := by
  obtain ⟨cs, rfl, hsz⟩ := okWide_struct hs hv
  obtain ⟨c0, rfl⟩ : ∃ c0, cs = #[c0] := by
    obtain ⟨l⟩ := cs
    match l, hsz.trans hC with
    | [c0], _ => exact ⟨c0, rfl⟩
  obtain ⟨fuel, hf'⟩ := h
  obtain ⟨y0, n, hx, _, h0⟩ := trod_struct1 hs hf'
  obtain ⟨o0, k0⟩ := hone_of hone 0 f0 rfl
  have h1 : DataW.trod enc P w base (fun _ => true) held n f0.type [c0] = some y0 := by simpa [Value.cells, o0, k0] using h0
  rcases open_strings hf he hc h1 with ⟨h2, _⟩ | ⟨a, len, cap, ss, h2, _, hl, hm, hlen, _, hcell, hsm⟩
  · cases h2
    exact ⟨none, 0, [], rfl, Rd.nil _ _, by simp, by simp⟩
  · cases h2
    simp at hlen
    refine ⟨some a, cap, ss.take len, ?_, rd_strings hcell, by simp; omega, fun s hs => hsm s (List.mem_of_mem_take hs)⟩
    have : (ss.take len).length = len := by simp; omega
    rw [this]
end
end Go.Proofs.YtabljchbchjjcaaGreatDoor
end
section
namespace Go.Proofs.YtabljchbchjjcaaGreatDoor
end Go.Proofs.YtabljchbchjjcaaGreatDoor
end
section
namespace Go.Proofs.YtabljchbchjjcaaGreatDoor
open Go Go.ChangeShapes Go.WideShapes Go.ChangeAt Go.RowKit Go.Lib
set_option linter.unusedVariables false
set_option maxRecDepth 100000
theorem powD_eq : (Rows.laid_internal_strconv_uint64pow10 : DataW Unit) = Lib.tabData .u64 Lib.pow10Tab := by kernel_rfl
theorem tabF_of {W : World} {a b : String × DataW Unit} {r : List (String × DataW Unit)}
    (h : laidMet Tryz.prog (a :: b :: ("internal/strconv.uint64pow10", Rows.laid_internal_strconv_uint64pow10) :: r) W) : TabF W := by
  have h3 := h.tail.tail
  rw [powD_eq] at h3
  exact Lib.tabIs_of_head (g := 1) (t := 159) (e := 66) (n := 20) (by kernel_rfl) (by kernel_rfl) Tryz.underlying159 Tryz.underlying66 (by kernel_rfl) (by kernel_rfl) h3
end Go.Proofs.YtabljchbchjjcaaGreatDoor
end
section
namespace Go.Proofs.YtabljchbchjjcaaGreatDoor
open Go Go.ChangeShapes Go.WideShapes Go.ChangeAt Go.RowKit
set_option linter.unusedVariables false
def u8s (zs : List Int) : List UInt8 := zs.map fun z => UInt8.ofNat z.toNat
theorem rd_u8s {w : World} {a : Addr} {zs : List Int} {len : Nat} (hw : ∀ n ∈ zs, (Lit.int .u8 n).wf = true) (hc : ∀ i, i < zs.length → w.cell? (a.add i) = some (.int .u8 (zs.getD i 0))) : Rd w (some a) (bytesV (u8s (zs.take len))) := by
  intro j u hj
  have hjl : j < (zs.take len).length := by
    have := (List.getElem?_eq_some_iff.1 hj).1
    simpa [bytesV, u8s] using this
  have hj' : j < zs.length := by rw [List.length_take] at hjl; omega
  have h := hc j hj'
  obtain ⟨b, o, spot⟩ := a
  have hspot := World.cell?_spot (hc 0 (by omega))
  have hz : zs.getD j 0 = zs[j] := by simp [List.getD_eq_getElem?_getD, hj']
  obtain ⟨z0, z1⟩ := wf_u8 (hw zs[j] (List.getElem_mem hj'))
  have hu : u = .int .u8 (zs.getD j 0) := by
    have e : (bytesV (u8s (zs.take len)))[j]? = some (.int .u8 ((UInt8.ofNat zs[j].toNat).toNat : Int)) := by
      have hjl2 : j < len ∧ j < zs.length := by rw [List.length_take] at hjl; omega
      simp [bytesV, u8s, hjl2.1, hj']
    rw [e] at hj
    cases hj
    rw [hz]
    congr 1
    simp
    omega
  have hs : spot = none := by simpa [Addr.add] using hspot
  subst hs
  refine ⟨b, o, rfl, ?_⟩
  rw [hu]
  by_cases hj0 : j = 0
  · subst hj0; simpa [Addr.add] using h
  · simpa [Addr.add, hj0] using h
section
variable {H : Type} {enc : TypeId × Value → H} {P : Program} {w : World} {base : Nat} {held : Bool}
theorem open_code {r : Reach} {b0 : Nat} {t e : TypeId} {v : Value} {d : DataW H} {p : List MemPlace} (ht : P.underlying t = some (.slice e)) (he : P.underlying e = some (.int .u8)) (hc : P.cellsOf e = 1)
    (hv : Value.okWide P w r b0 t v) (h : DataW.Trod enc P w base (fun _ => true) held t v d p) :
    ∃ (a : Option Addr) (c : Nat) (l : List UInt8), v = .slice a l.length c ∧ Rd w a (bytesV l) ∧ l.length ≤ maxLen := by
  obtain ⟨a, len, cap, rfl⟩ := okWide_slice ht hv
  obtain ⟨fuel, hf⟩ := h
  have hf' : DataW.trod enc P w base (fun _ => true) held fuel t [.slice a len cap] = some (d, p) := by simpa [Value.cells] using hf
  rcases open_ints ht he hc hf' with ⟨h2, _⟩ | ⟨a', len', cap', zs, h2, _, hl, hm, hlen, _, hcell, hsm⟩
  · simp only [List.cons.injEq, Value.slice.injEq, and_true] at h2
    obtain ⟨rfl, rfl, rfl⟩ := h2
    exact ⟨none, 0, [], rfl, Rd.nil _ _, by simp⟩
  · simp only [List.cons.injEq, Value.slice.injEq, and_true] at h2
    obtain ⟨rfl, rfl, rfl⟩ := h2
    simp at hlen
    refine ⟨some a', cap, u8s (zs.take len), ?_, rd_u8s hsm hcell, by simp [u8s]; omega⟩
    have : (u8s (zs.take len)).length = len := by simp [u8s]; omega
    rw [this]
end
end Go.Proofs.YtabljchbchjjcaaGreatDoor
end
