/- The bodies behind a function of the library, as this program numbers them. -/
import Derived.Shelf.Strings.Count
import Derived.Test.YtjohfigipllpoaaCommon
namespace Go.Proofs.Ytjohfigipllpoaa.Ai
open Go Go.Proofs
set_option linter.unusedVariables false
set_option linter.unusedSimpArgs false
set_option maxRecDepth 10000
def lays138_ren : Go.Shelf.Ren := ⟨fun | 138 => 27 | 195 => 39 | 218 => 40 | 143 => 41 | 219 => 43 | 217 => 44 | 225 => 45 | 224 => 46 | 267 => 47 | 266 => 48 | 314 => 49 | n => n, fun | 9 => 9 | 3 => 3 | 4 => 4 | 5 => 5 | 0 => 0 | 46 => 62 | 146 => 64 | 51 => 63 | n => n, fun | 1 => 0 | n => n⟩
theorem lays138 : Go.Proofs.Lays.n138 Try.prog lays138_ren :=
  { mixed := by kernel_rfl,
    f138 := Try.func27.trans (congrArg some (by kernel_rfl)),
    f143 := Try.func41.trans (congrArg some (by kernel_rfl)),
    f195 := Try.func39.trans (congrArg some (by kernel_rfl)),
    f217 := Try.func44.trans (congrArg some (by kernel_rfl)),
    f218 := Try.func40.trans (congrArg some (by kernel_rfl)),
    f219 := Try.func43.trans (congrArg some (by kernel_rfl)),
    f224 := Try.func46.trans (congrArg some (by kernel_rfl)),
    f225 := Try.func45.trans (congrArg some (by kernel_rfl)),
    f266 := Try.func48.trans (congrArg some (by kernel_rfl)),
    f267 := Try.func47.trans (congrArg some (by kernel_rfl)),
    f314 := Try.func49.trans (congrArg some (by kernel_rfl)),
    t0 := Try.underlying0,
    a0 := Try.isAgg0,
    z0 := Try.sizeOf0,
    v0 := Try.zeroValue0,
    t3 := Try.underlying3,
    a3 := Try.isAgg3,
    z3 := Try.sizeOf3,
    v3 := Try.zeroValue3,
    t4 := Try.underlying4,
    a4 := Try.isAgg4,
    z4 := Try.sizeOf4,
    v4 := Try.zeroValue4,
    t5 := Try.underlying5,
    a5 := Try.isAgg5,
    z5 := Try.sizeOf5,
    v5 := Try.zeroValue5,
    t9 := Try.underlying9,
    a9 := Try.isAgg9,
    z9 := Try.sizeOf9,
    v9 := Try.zeroValue9,
    t46 := Try.underlying62,
    a46 := Try.isAgg62,
    z46 := Try.sizeOf62,
    v46 := Try.zeroValue62,
    t51 := Try.underlying63,
    a51 := Try.isAgg63,
    z51 := Try.sizeOf63,
    v51 := Try.zeroValue63,
    t146 := Try.underlying64,
    a146 := Try.isAgg64,
    z146 := Try.sizeOf64,
    v146 := Try.zeroValue64,
    g1 := by kernel_rfl }
end Go.Proofs.Ytjohfigipllpoaa.Ai
