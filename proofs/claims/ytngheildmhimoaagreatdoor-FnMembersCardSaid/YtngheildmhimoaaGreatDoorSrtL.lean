/-
  The library's contract of slices.insertionSortCmpFunc at this program's members, in plain words. Conditions: none.
-/
import Derived.Shelf.SlSortCmp.InsertionK
import Derived.Test.YtngheildmhimoaaGreatDoorProg
namespace Go.Proofs
open Go.Shelf
def Tryz.insM_ren : Go.Shelf.Ren := ⟨fun | 20 => 84 | n => n, fun | 24 => 54 | 22 => 24 | 3 => 3 | 25 => 77 | 4 => 4 | 0 => 0 | n => n, fun | n => n⟩
theorem Tryz.ins84 : Go.Proofs.SlLaysF0.n20 Tryz.prog Tryz.insM_ren := {
  mixed := by kernel_rfl
  f20 := ⟨Tryz.f84.name, by decide, Tryz.func84.trans (congrArg some (by kernel_rfl))⟩
  t0 := Tryz.underlying0
  a0 := Tryz.isAgg0
  z0 := Tryz.sizeOf0
  v0 := Tryz.zeroValue0
  t3 := Tryz.underlying3
  a3 := Tryz.isAgg3
  z3 := Tryz.sizeOf3
  v3 := Tryz.zeroValue3
  t4 := Tryz.underlying4
  a4 := Tryz.isAgg4
  z4 := Tryz.sizeOf4
  v4 := Tryz.zeroValue4
  t22 := Tryz.underlying24
  a22 := Tryz.isAgg24
  z22 := Tryz.sizeOf24
  v22 := Tryz.zeroValue24
  t25 := Tryz.underlying77
  a25 := Tryz.isAgg77
  z25 := Tryz.sizeOf77
  v25 := Tryz.zeroValue77 }
end Go.Proofs

