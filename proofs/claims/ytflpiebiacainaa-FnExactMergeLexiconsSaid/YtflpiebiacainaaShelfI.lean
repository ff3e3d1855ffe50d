/- Contracts of the library, laid at this program's numbers. No condition. -/
import Derived.Shelf.Spec.SlicesInsert
import Derived.Shelf.Spec.SlicesInsertGrow
import Derived.Test.YtflpiebiacainaaProg
namespace Go.Proofs
open Go.Shelf
def Try.laysH222_ren : Go.Shelf.Ren := ⟨fun | 17 => 62 | 22 => 29 | 29 => 42 | 30 => 43 | 36 => 50 | n => n, fun | 0 => 0 | 3 => 3 | 4 => 4 | 9 => 9 | 24 => 22 | n => n, fun | n => n⟩
theorem Try.laysH222 : Go.Proofs.Lays2.n22 Try.prog Try.laysH222_ren := {
  mixed := by kernel_rfl
  f17 := Try.func62.trans (congrArg some (by kernel_rfl))
  f22 := Try.func29.trans (congrArg some (by kernel_rfl))
  f29 := Try.func42.trans (congrArg some (by kernel_rfl))
  f30 := Try.func43.trans (congrArg some (by kernel_rfl))
  f36 := Try.func50.trans (congrArg some (by kernel_rfl))
  t0 := Try.underlying0
  a0 := Try.isAgg0
  z0 := Try.sizeOf0
  v0 := Try.zeroValue0
  t3 := Try.underlying3
  a3 := Try.isAgg3
  z3 := Try.sizeOf3
  v3 := Try.zeroValue3
  t4 := Try.underlying4
  a4 := Try.isAgg4
  z4 := Try.sizeOf4
  v4 := Try.zeroValue4
  t9 := Try.underlying9
  a9 := Try.isAgg9
  z9 := Try.sizeOf9
  v9 := Try.zeroValue9
  t24 := Try.underlying22
  a24 := Try.isAgg22
  z24 := Try.sizeOf22
  v24 := Try.zeroValue22
  i9 := by kernel_rfl }
end Go.Proofs
