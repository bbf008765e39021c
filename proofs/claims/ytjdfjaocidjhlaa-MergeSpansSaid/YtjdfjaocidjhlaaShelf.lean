/- slices.Sort at []int64, laid from the shelf (lay-plain.mjs wrote the laying). -/
import Derived.Shelf.SlGeneric
import Derived.Ground.SlgnProg
import Derived.Shelf.SortG.Plain
import Derived.Shelf.SortG.SortNone
import Derived.Test.YtjdfjaocidjhlaaVals
namespace Go.Proofs.Ytjdfjaocidjhlaa
open Go.Shelf
def laysSort_ren : Go.Shelf.Ren := ⟨fun | 53 => 45 | 64 => 49 | 63 => 52 | 78 => 61 | 79 => 62 | 70 => 63 | 71 => 64 | 72 => 65 | 73 => 66 | 74 => 67 | 75 => 68 | 59 => 69 | 76 => 70 | 77 => 71 | 88 => 77 | 89 => 73 | 90 => 74 | 91 => 78 | 92 => 79 | 68 => 50 | 96 => 81 | n => n, fun | 22 => 47 | 23 => 2 | 3 => 3 | 51 => 82 | 0 => 0 | 67 => 97 | 69 => 99 | 4 => 4 | 61 => 91 | 60 => 90 | 44 => 61 | 5 => 5 | 9 => 9 | 75 => 106 | 79 => 110 | 83 => 114 | 84 => 115 | n => n, fun | n => n⟩
theorem laysSort : Go.Proofs.SlLaysN.n53 Try.prog laysSort_ren := {
  mixed := by kernel_rfl
  f53 := ⟨Try.f45.name, by decide, Try.func45.trans (congrArg some (by kernel_rfl))⟩
  f59 := ⟨Try.f69.name, by decide, Try.func69.trans (congrArg some (by kernel_rfl))⟩
  f63 := ⟨Try.f52.name, by decide, Try.func52.trans (congrArg some (by kernel_rfl))⟩
  f64 := Try.func49.trans (congrArg some (by kernel_rfl))
  f68 := ⟨Try.f50.name, by decide, Try.func50.trans (congrArg some (by kernel_rfl))⟩
  f70 := ⟨Try.f63.name, by decide, Try.func63.trans (congrArg some (by kernel_rfl))⟩
  f71 := ⟨Try.f64.name, by decide, Try.func64.trans (congrArg some (by kernel_rfl))⟩
  f72 := ⟨Try.f65.name, by decide, Try.func65.trans (congrArg some (by kernel_rfl))⟩
  f73 := ⟨Try.f66.name, by decide, Try.func66.trans (congrArg some (by kernel_rfl))⟩
  f74 := ⟨Try.f67.name, by decide, Try.func67.trans (congrArg some (by kernel_rfl))⟩
  f75 := ⟨Try.f68.name, by decide, Try.func68.trans (congrArg some (by kernel_rfl))⟩
  f76 := ⟨Try.f70.name, by decide, Try.func70.trans (congrArg some (by kernel_rfl))⟩
  f77 := ⟨Try.f71.name, by decide, Try.func71.trans (congrArg some (by kernel_rfl))⟩
  f78 := Try.func61.trans (congrArg some (by kernel_rfl))
  f79 := Try.func62.trans (congrArg some (by kernel_rfl))
  f88 := ⟨Try.f77.name, by decide, Try.func77.trans (congrArg some (by kernel_rfl))⟩
  f89 := Try.func73.trans (congrArg some (by kernel_rfl))
  f90 := Try.func74.trans (congrArg some (by kernel_rfl))
  f91 := ⟨Try.f78.name, by decide, Try.func78.trans (congrArg some (by kernel_rfl))⟩
  f92 := ⟨Try.f79.name, by decide, Try.func79.trans (congrArg some (by kernel_rfl))⟩
  f96 := ⟨Try.f81.name, by decide, Try.func81.trans (congrArg some (by kernel_rfl))⟩
  t0 := Try.underlying0
  a0 := Try.isAgg0
  z0 := Try.sizeOf0
  v0 := Try.zeroValue0
  t3 := Try.underlying3
  a3 := Try.isAgg3
  z3 := Try.sizeOf3
  v3 := Try.zeroValue3
  t4 := Try.underlying4
  a4 := Try.isAgg4
  z4 := Try.sizeOf4
  v4 := Try.zeroValue4
  t5 := Try.underlying5
  a5 := Try.isAgg5
  z5 := Try.sizeOf5
  v5 := Try.zeroValue5
  t9 := Try.underlying9
  a9 := Try.isAgg9
  z9 := Try.sizeOf9
  v9 := Try.zeroValue9
  t22 := Try.underlying47
  a22 := Try.isAgg47
  z22 := Try.sizeOf47
  v22 := Try.zeroValue47
  t23 := Try.underlying2
  a23 := Try.isAgg2
  z23 := Try.sizeOf2
  v23 := Try.zeroValue2
  t44 := Try.underlying61
  a44 := Try.isAgg61
  z44 := Try.sizeOf61
  v44 := Try.zeroValue61
  t51 := Try.underlying82
  a51 := Try.isAgg82
  z51 := Try.sizeOf82
  v51 := Try.zeroValue82
  t60 := Try.underlying90
  a60 := Try.isAgg90
  z60 := Try.sizeOf90
  v60 := Try.zeroValue90
  t61 := Try.underlying91
  a61 := Try.isAgg91
  z61 := Try.sizeOf91
  v61 := Try.zeroValue91
  t67 := Try.underlying97
  a67 := Try.isAgg97
  z67 := Try.sizeOf97
  v67 := Try.zeroValue97
  t69 := Try.underlying99
  a69 := Try.isAgg99
  z69 := Try.sizeOf99
  v69 := Try.zeroValue99
  t75 := Try.underlying106
  a75 := Try.isAgg106
  z75 := Try.sizeOf106
  v75 := Try.zeroValue106
  t79 := Try.underlying110
  a79 := Try.isAgg110
  z79 := Try.sizeOf110
  v79 := Try.zeroValue110
  t83 := Try.underlying114
  a83 := Try.isAgg114
  z83 := Try.sizeOf114
  v83 := Try.zeroValue114
  t84 := Try.underlying115
  a84 := Try.isAgg115
  z84 := Try.sizeOf115
  v84 := Try.zeroValue115 }
open Go.Shelf Go.Sort Go.RowKit in
theorem slices_Sort_int (blk off cap : Nat) (zs : List Int) (w : World) (hH : Holds (Value.int .i64) w blk off zs.toArray) (hblk : blk < w.heap.size) (hsz : zs.length < 4611686018427387904) :
    Calls Try.prog 45 #[.slice (some ⟨blk, off, none⟩) zs.length cap] w fun e w' =>
      e = .returned (.tuple #[]) ∧ ∃ n os, w' = grow (putRow (Value.int .i64) (Sort.ahead w n) blk off (zs.mergeSort fun x y => decide (x ≤ y)).toArray) os := AnyG.slices_Sort_int laysSort blk off cap zs w hH hblk hsz
theorem slices_Sort_int_none (p : Option Addr) (cap : Nat) (w : World) :
    Calls Try.prog 45 #[.slice p 0 cap] w fun e w' => e = .returned (.tuple #[]) ∧ w' = w := AnyG.slices_Sort_int_none laysSort p cap w
end Go.Proofs.Ytjdfjaocidjhlaa
