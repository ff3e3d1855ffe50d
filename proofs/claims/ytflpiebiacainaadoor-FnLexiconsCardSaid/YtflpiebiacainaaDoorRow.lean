/- What every row's frame asks of the program. No condition. -/
import Derived.Test.YtflpiebiacainaaDoorBase
import Derived.ProofKit
import Derived.OpenShut
import Derived.ShutString
import Derived.ChangeOld
import Derived.Below
import Derived.Lib.SmallJoins
namespace Go.Proofs.YtflpiebiacainaaDoor
open Go Go.ChangeShapes Go.WideShapes Go.ChangeAt Go.RowKit
set_option linter.unusedVariables false
theorem ownRow : ownKnob Tryd.prog.godebug = none := by kernel_rfl
theorem laidRow : laidOutB Tryd.prog = true := by kernel_rfl
/-- An integer that came in fits its kind. -/
theorem wf_i64 {a : Int} (h : (Lit.int .i64 a).wf = true) : -9223372036854775808 ≤ a ∧ a ≤ 9223372036854775807 := by
  simp only [Lit.wf, Bool.and_eq_true, decide_eq_true_eq] at h
  exact h
theorem wf_u8 {a : Int} (h : (Lit.int .u8 a).wf = true) : 0 ≤ a ∧ a < 256 := by
  simp only [Lit.wf, Bool.and_eq_true, decide_eq_true_eq] at h
  obtain ⟨h1, h2⟩ := h
  have h3 : a ≤ 255 := h2
  exact ⟨h1, by omega⟩
end Go.Proofs.YtflpiebiacainaaDoor
