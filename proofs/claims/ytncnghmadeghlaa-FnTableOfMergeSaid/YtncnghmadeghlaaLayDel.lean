/- slices.Delete of the library at slices of slices: where it stands in this program. -/
import Derived.Shelf.SlicesE.Delete
import Derived.Test.YtncnghmadeghlaaProg
namespace Go.Proofs.Ytncnghmadeghlaa
open Go.Shelf
def delRen : Go.Shelf.Ren := ⟨fun | 45 => 58 | n => n, fun | 22 => 24 | 23 => 42 | 3 => 3 | 4 => 4 | n => n, fun | n => n⟩
theorem delL : Go.Proofs.SlLaysE.n45 Try.prog delRen := {
  mixed := by kernel_rfl
  f45 := ⟨Try.f58.name, by decide, Try.func58.trans (congrArg some (by kernel_rfl))⟩
  t0 := Try.underlying0
  a0 := Try.isAgg0
  z0 := Try.sizeOf0
  v0 := Try.zeroValue0
  t3 := Try.underlying3
  a3 := Try.isAgg3
  z3 := Try.sizeOf3
  v3 := Try.zeroValue3
  t4 := Try.underlying4
  a4 := Try.isAgg4
  z4 := Try.sizeOf4
  v4 := Try.zeroValue4
  t22 := Try.underlying24
  a22 := Try.isAgg24
  z22 := Try.sizeOf24
  v22 := Try.zeroValue24
  a23 := Try.isAgg42
  z23 := Try.sizeOf42 }
end Go.Proofs.Ytncnghmadeghlaa
