/- The library's slices.BinarySearch at []string: its contract, laid at this program's numbers. No condition. -/
import Derived.Shelf.Spec.SearchS
import Derived.Test.YtaigabenlccdaaaProg
namespace Go.Proofs
open Go.Shelf
def Try.laysB26_ren : Go.Shelf.Ren := ⟨fun | 26 => 56 | 33 => 75 | 34 => 76 | 38 => 97 | n => n, fun | 0 => 0 | 3 => 3 | 4 => 4 | 9 => 9 | 24 => 22 | 40 => 79 | n => n, fun | n => n⟩
theorem Try.laysB26 : Go.Proofs.Lays2.n26 Try.prog Try.laysB26_ren := {
  mixed := by kernel_rfl
  f26 := Try.func56.trans (congrArg some (by kernel_rfl))
  f33 := Try.func75.trans (congrArg some (by kernel_rfl))
  f34 := Try.func76.trans (congrArg some (by kernel_rfl))
  f38 := Try.func97.trans (congrArg some (by kernel_rfl))
  t0 := Try.underlying0
  a0 := Try.isAgg0
  z0 := Try.sizeOf0
  v0 := Try.zeroValue0
  t3 := Try.underlying3
  a3 := Try.isAgg3
  z3 := Try.sizeOf3
  v3 := Try.zeroValue3
  t4 := Try.underlying4
  a4 := Try.isAgg4
  z4 := Try.sizeOf4
  v4 := Try.zeroValue4
  t9 := Try.underlying9
  a9 := Try.isAgg9
  z9 := Try.sizeOf9
  v9 := Try.zeroValue9
  t24 := Try.underlying22
  a24 := Try.isAgg22
  z24 := Try.sizeOf22
  v24 := Try.zeroValue22
  t40 := Try.underlying79
  a40 := Try.isAgg79
  z40 := Try.sizeOf79
  v40 := Try.zeroValue79 }
end Go.Proofs
