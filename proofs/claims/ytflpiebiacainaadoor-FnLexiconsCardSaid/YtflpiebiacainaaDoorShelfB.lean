/- The library's slices.BinarySearch at []string: its contract, laid at this program's numbers. No condition. -/
import Derived.Shelf.Spec.SearchS
import Derived.Test.YtflpiebiacainaaDoorProg
namespace Go.Proofs
open Go.Shelf
def Tryd.laysB26_ren : Go.Shelf.Ren := ⟨fun | 26 => 27 | 33 => 41 | 34 => 42 | 38 => 61 | n => n, fun | 0 => 0 | 3 => 3 | 4 => 4 | 9 => 9 | 24 => 24 | 40 => 73 | n => n, fun | n => n⟩
theorem Tryd.laysB26 : Go.Proofs.Lays2.n26 Tryd.prog Tryd.laysB26_ren := {
  mixed := by kernel_rfl
  f26 := Tryd.func27.trans (congrArg some (by kernel_rfl))
  f33 := Tryd.func41.trans (congrArg some (by kernel_rfl))
  f34 := Tryd.func42.trans (congrArg some (by kernel_rfl))
  f38 := Tryd.func61.trans (congrArg some (by kernel_rfl))
  t0 := Tryd.underlying0
  a0 := Tryd.isAgg0
  z0 := Tryd.sizeOf0
  v0 := Tryd.zeroValue0
  t3 := Tryd.underlying3
  a3 := Tryd.isAgg3
  z3 := Tryd.sizeOf3
  v3 := Tryd.zeroValue3
  t4 := Tryd.underlying4
  a4 := Tryd.isAgg4
  z4 := Tryd.sizeOf4
  v4 := Tryd.zeroValue4
  t9 := Tryd.underlying9
  a9 := Tryd.isAgg9
  z9 := Tryd.sizeOf9
  v9 := Tryd.zeroValue9
  t24 := Tryd.underlying24
  a24 := Tryd.isAgg24
  z24 := Tryd.sizeOf24
  v24 := Tryd.zeroValue24
  t40 := Tryd.underlying73
  a40 := Tryd.isAgg73
  z40 := Tryd.sizeOf73
  v40 := Tryd.zeroValue73 }
end Go.Proofs
