/- The library's functions at this program: where they lie. No condition. -/
import Derived.Shelf.Lays
import Derived.Test.YtcpbgiikfabaaaaProg
namespace Go.Proofs.Ytcpbgiikfabaaaa
open Go.Shelf
def sh137_ren : Go.Shelf.Ren := ⟨fun | 137 => 56 | 217 => 60 | 266 => 61 | n => n, fun | 9 => 9 | 5 => 5 | 3 => 3 | n => n, fun | n => n⟩
theorem sh137 : Go.Proofs.Lays.n137 Try.prog sh137_ren := {
  mixed := by kernel_rfl
  f137 := Try.func56.trans (congrArg some (by kernel_rfl))
  f217 := Try.func60.trans (congrArg some (by kernel_rfl))
  f266 := Try.func61.trans (congrArg some (by kernel_rfl))
  t3 := Try.underlying3
  a3 := Try.isAgg3
  z3 := Try.sizeOf3
  v3 := Try.zeroValue3
  t5 := Try.underlying5
  a5 := Try.isAgg5
  z5 := Try.sizeOf5
  v5 := Try.zeroValue5
  t9 := Try.underlying9
  a9 := Try.isAgg9
  z9 := Try.sizeOf9
  v9 := Try.zeroValue9 }
def sh150_ren : Go.Shelf.Ren := ⟨fun | 150 => 50 | 153 => 51 | 152 => 52 | 226 => 53 | 227 => 54 | 228 => 55 | 137 => 56 | 119 => 57 | 224 => 58 | 225 => 59 | 217 => 60 | 266 => 61 | n => n, fun | 9 => 9 | 4 => 4 | 3 => 3 | 5 => 5 | 21 => 21 | 117 => 85 | 116 => 84 | 0 => 0 | 46 => 80 | 124 => 90 | n => n, fun | n => n⟩
theorem sh150 : Go.Proofs.Lays.n150 Try.prog sh150_ren := {
  mixed := by kernel_rfl
  f119 := Try.func57.trans (congrArg some (by kernel_rfl))
  f137 := Try.func56.trans (congrArg some (by kernel_rfl))
  f150 := Try.func50.trans (congrArg some (by kernel_rfl))
  f152 := Try.func52.trans (congrArg some (by kernel_rfl))
  f153 := Try.func51.trans (congrArg some (by kernel_rfl))
  f217 := Try.func60.trans (congrArg some (by kernel_rfl))
  f224 := Try.func58.trans (congrArg some (by kernel_rfl))
  f225 := Try.func59.trans (congrArg some (by kernel_rfl))
  f226 := Try.func53.trans (congrArg some (by kernel_rfl))
  f227 := Try.func54.trans (congrArg some (by kernel_rfl))
  f228 := Try.func55.trans (congrArg some (by kernel_rfl))
  f266 := Try.func61.trans (congrArg some (by kernel_rfl))
  t0 := Try.underlying0
  a0 := Try.isAgg0
  z0 := Try.sizeOf0
  v0 := Try.zeroValue0
  t3 := Try.underlying3
  a3 := Try.isAgg3
  z3 := Try.sizeOf3
  v3 := Try.zeroValue3
  t4 := Try.underlying4
  a4 := Try.isAgg4
  z4 := Try.sizeOf4
  v4 := Try.zeroValue4
  t5 := Try.underlying5
  a5 := Try.isAgg5
  z5 := Try.sizeOf5
  v5 := Try.zeroValue5
  t9 := Try.underlying9
  a9 := Try.isAgg9
  z9 := Try.sizeOf9
  v9 := Try.zeroValue9
  t21 := Try.underlying21
  a21 := Try.isAgg21
  z21 := Try.sizeOf21
  v21 := Try.zeroValue21
  t46 := Try.underlying80
  a46 := Try.isAgg80
  z46 := Try.sizeOf80
  v46 := Try.zeroValue80
  t116 := Try.underlying84
  a116 := Try.isAgg84
  z116 := Try.sizeOf84
  t117 := Try.underlying85
  a117 := Try.isAgg85
  z117 := Try.sizeOf85
  v117 := Try.zeroValue85
  t124 := Try.underlying90
  a124 := Try.isAgg90
  z124 := Try.sizeOf90
  v124 := Try.zeroValue90 }
end Go.Proofs.Ytcpbgiikfabaaaa
