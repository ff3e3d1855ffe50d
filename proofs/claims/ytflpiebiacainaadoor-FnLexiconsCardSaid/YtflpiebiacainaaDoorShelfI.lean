/- Contracts of the library, laid at this program's numbers. No condition. -/
import Derived.Shelf.Spec.SlicesInsert
import Derived.Shelf.Spec.SlicesInsertGrow
import Derived.Test.YtflpiebiacainaaDoorProg
namespace Go.Proofs
open Go.Shelf
def Tryd.laysH222_ren : Go.Shelf.Ren := ⟨fun | 17 => 74 | 22 => 28 | 29 => 43 | 30 => 44 | 36 => 62 | n => n, fun | 0 => 0 | 3 => 3 | 4 => 4 | 9 => 9 | 24 => 24 | n => n, fun | n => n⟩
theorem Tryd.laysH222 : Go.Proofs.Lays2.n22 Tryd.prog Tryd.laysH222_ren := {
  mixed := by kernel_rfl
  f17 := Tryd.func74.trans (congrArg some (by kernel_rfl))
  f22 := Tryd.func28.trans (congrArg some (by kernel_rfl))
  f29 := Tryd.func43.trans (congrArg some (by kernel_rfl))
  f30 := Tryd.func44.trans (congrArg some (by kernel_rfl))
  f36 := Tryd.func62.trans (congrArg some (by kernel_rfl))
  t0 := Tryd.underlying0
  a0 := Tryd.isAgg0
  z0 := Tryd.sizeOf0
  v0 := Tryd.zeroValue0
  t3 := Tryd.underlying3
  a3 := Tryd.isAgg3
  z3 := Tryd.sizeOf3
  v3 := Tryd.zeroValue3
  t4 := Tryd.underlying4
  a4 := Tryd.isAgg4
  z4 := Tryd.sizeOf4
  v4 := Tryd.zeroValue4
  t9 := Tryd.underlying9
  a9 := Tryd.isAgg9
  z9 := Tryd.sizeOf9
  v9 := Tryd.zeroValue9
  t24 := Tryd.underlying24
  a24 := Tryd.isAgg24
  z24 := Tryd.sizeOf24
  v24 := Tryd.zeroValue24
  i9 := by kernel_rfl }
end Go.Proofs
