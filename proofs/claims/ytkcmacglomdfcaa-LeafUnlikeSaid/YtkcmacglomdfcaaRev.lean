/-
  slices.Reverse at digests and at turns: the shelf's contracts laid at this program by the kit's own tool (lay-plain).
-/
import Derived.Shelf.SlGeneric
import Derived.Shelf.SlicesQ.Reverse
import Derived.Shelf.SlicesE.Reverse
import Derived.Test.YtkcmacglomdfcaaProg
namespace Go.Proofs.Ytkcmacglomdfcaa
open Go.Shelf
def revSum_ren : Go.Shelf.Ren := ⟨fun | 35 => 89 | n => n, fun | 22 => 42 | 23 => 26 | 3 => 3 | 4 => 4 | 0 => 0 | n => n, fun | n => n⟩
theorem revSum : Go.Proofs.SlLaysE0.n35 Try.prog revSum_ren := {
  mixed := by kernel_rfl
  f35 := ⟨Try.f89.name, by decide, Try.func89.trans (congrArg some (by kernel_rfl))⟩
  t0 := Try.underlying0
  a0 := Try.isAgg0
  z0 := Try.sizeOf0
  v0 := Try.zeroValue0
  t3 := Try.underlying3
  a3 := Try.isAgg3
  z3 := Try.sizeOf3
  v3 := Try.zeroValue3
  t4 := Try.underlying4
  a4 := Try.isAgg4
  z4 := Try.sizeOf4
  v4 := Try.zeroValue4
  t22 := Try.underlying42
  a22 := Try.isAgg42
  z22 := Try.sizeOf42
  v22 := Try.zeroValue42 }
def revTurn_ren : Go.Shelf.Ren := ⟨fun | 35 => 105 | n => n, fun | 22 => 137 | 23 => 140 | 3 => 3 | 4 => 4 | 0 => 0 | n => n, fun | n => n⟩
theorem revTurn : Go.Proofs.SlLaysE.n35 Try.prog revTurn_ren := {
  mixed := by kernel_rfl
  f35 := ⟨Try.f105.name, by decide, Try.func105.trans (congrArg some (by kernel_rfl))⟩
  t0 := Try.underlying0
  a0 := Try.isAgg0
  z0 := Try.sizeOf0
  v0 := Try.zeroValue0
  t3 := Try.underlying3
  a3 := Try.isAgg3
  z3 := Try.sizeOf3
  v3 := Try.zeroValue3
  t4 := Try.underlying4
  a4 := Try.isAgg4
  z4 := Try.sizeOf4
  v4 := Try.zeroValue4
  t22 := Try.underlying137
  a22 := Try.isAgg137
  z22 := Try.sizeOf137
  v22 := Try.zeroValue137
  a23 := Try.isAgg140
  z23 := Try.sizeOf140 }
end Go.Proofs.Ytkcmacglomdfcaa
