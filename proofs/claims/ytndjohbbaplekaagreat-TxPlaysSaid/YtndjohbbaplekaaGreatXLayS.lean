/-
  DERIVED: THE SHELF's CONTRACTS AT THIS DUMP, IN PLAIN WORDS (tools/lay-plain.mjs out of 'YtndjohbbaplekaaGreatXLay0.lean', which tools/lay-shelf.mjs wrote): THE SAME DECLARATIONS UNDER THE SAME NAMES: 'import', 'namespace', 'open', 'def', 'theorem' AND NOTHING ELSE: no command of the shelf's: FOR A HAND-IN. Each laying: the table of numbers ('.._ren') and one theorem, a field a fact of the dump's own or the kernel's comparison; each contract: ONE APPLICATION.
-/
import Derived.Shelf.SlIterI.Collect
import Derived.Shelf.SortM.Plain
import Derived.Shelf.SortM.SortNone
import Derived.Ground.GgzProg
import Derived.Ground.SlgmProg
import Derived.Test.YtndjohbbaplekaaGreatChecked
set_option linter.unusedSimpArgs false
set_option linter.unusedVariables false
namespace Go.Proofs
open Go.Shelf
def YtndjohbbaplekaaGreatX.keysZ_ren : Go.Shelf.Ren := ⟨fun | 10 => 255 | n => n, fun | 33 => 61 | 23 => 208 | 0 => 0 | 4 => 4 | 26 => 3 | 3 => 9 | n => n, fun | n => n⟩
theorem YtndjohbbaplekaaGreatX.keysZ : Go.Proofs.SlLaysZI.n10 Tryz.prog YtndjohbbaplekaaGreatX.keysZ_ren := {
  mixed := by kernel_rfl
  f10 := ⟨Tryz.f255.name, by decide, Tryz.func255.trans (congrArg some (by kernel_rfl))⟩
  t0 := Tryz.underlying0
  a0 := Tryz.isAgg0
  z0 := Tryz.sizeOf0
  v0 := Tryz.zeroValue0
  t4 := Tryz.underlying4
  a4 := Tryz.isAgg4
  z4 := Tryz.sizeOf4
  v4 := Tryz.zeroValue4
  t23 := Tryz.underlying208
  a23 := Tryz.isAgg208
  z23 := Tryz.sizeOf208
  v23 := Tryz.zeroValue208
  t26 := Tryz.underlying3
  a26 := Tryz.isAgg3
  z26 := Tryz.sizeOf3
  v26 := Tryz.zeroValue3
  t33 := Tryz.underlying61
  a33 := Tryz.isAgg61
  z33 := Tryz.sizeOf61
  v33 := Tryz.zeroValue61 }
def YtndjohbbaplekaaGreatX.collZ_ren : Go.Shelf.Ren := ⟨fun | 8 => 253 | 11 => 283 | n => n, fun | 26 => 3 | 28 => 282 | 24 => 64 | 0 => 0 | 33 => 61 | 4 => 4 | n => n, fun | n => n⟩
theorem YtndjohbbaplekaaGreatX.collZ : Go.Proofs.SlLaysZI.n8 Tryz.prog YtndjohbbaplekaaGreatX.collZ_ren := {
  mixed := by kernel_rfl
  f8 := ⟨Tryz.f253.name, by decide, Tryz.func253.trans (congrArg some (by kernel_rfl))⟩
  f11 := ⟨Tryz.f283.name, by decide, Tryz.func283.trans (congrArg some (by kernel_rfl))⟩
  t0 := Tryz.underlying0
  a0 := Tryz.isAgg0
  z0 := Tryz.sizeOf0
  v0 := Tryz.zeroValue0
  t24 := Tryz.underlying64
  a24 := Tryz.isAgg64
  z24 := Tryz.sizeOf64
  v24 := Tryz.zeroValue64
  t26 := Tryz.underlying3
  a26 := Tryz.isAgg3
  z26 := Tryz.sizeOf3
  v26 := Tryz.zeroValue3
  t28 := Tryz.underlying282
  a28 := Tryz.isAgg282
  z28 := Tryz.sizeOf282
  v28 := Tryz.zeroValue282
  i26 := by kernel_rfl }
def YtndjohbbaplekaaGreatX.sortZ_ren : Go.Shelf.Ren := ⟨fun | 5 => 254 | 8 => 223 | 7 => 284 | 19 => 248 | 20 => 249 | 10 => 297 | 11 => 298 | 12 => 299 | 13 => 300 | 14 => 301 | 15 => 302 | 16 => 303 | 17 => 304 | 18 => 305 | 30 => 310 | 31 => 265 | 32 => 266 | 33 => 311 | 34 => 312 | 35 => 224 | 40 => 313 | n => n, fun | 23 => 64 | 25 => 3 | 3 => 3 | 32 => 274 | 22 => 64 | 0 => 0 | 44 => 296 | 46 => 136 | 4 => 4 | 36 => 290 | 35 => 289 | 41 => 55 | 5 => 5 | 9 => 9 | 53 => 306 | 57 => 310 | 63 => 332 | 64 => 333 | n => n, fun | n => n⟩
theorem YtndjohbbaplekaaGreatX.sortZ : Go.Proofs.SlLaysM.n5 Tryz.prog YtndjohbbaplekaaGreatX.sortZ_ren := {
  mixed := by kernel_rfl
  f5 := ⟨Tryz.f254.name, by decide, Tryz.func254.trans (congrArg some (by kernel_rfl))⟩
  f7 := ⟨Tryz.f284.name, by decide, Tryz.func284.trans (congrArg some (by kernel_rfl))⟩
  f8 := Tryz.func223.trans (congrArg some (by kernel_rfl))
  f10 := ⟨Tryz.f297.name, by decide, Tryz.func297.trans (congrArg some (by kernel_rfl))⟩
  f11 := ⟨Tryz.f298.name, by decide, Tryz.func298.trans (congrArg some (by kernel_rfl))⟩
  f12 := ⟨Tryz.f299.name, by decide, Tryz.func299.trans (congrArg some (by kernel_rfl))⟩
  f13 := ⟨Tryz.f300.name, by decide, Tryz.func300.trans (congrArg some (by kernel_rfl))⟩
  f14 := ⟨Tryz.f301.name, by decide, Tryz.func301.trans (congrArg some (by kernel_rfl))⟩
  f15 := ⟨Tryz.f302.name, by decide, Tryz.func302.trans (congrArg some (by kernel_rfl))⟩
  f16 := ⟨Tryz.f303.name, by decide, Tryz.func303.trans (congrArg some (by kernel_rfl))⟩
  f17 := ⟨Tryz.f304.name, by decide, Tryz.func304.trans (congrArg some (by kernel_rfl))⟩
  f18 := ⟨Tryz.f305.name, by decide, Tryz.func305.trans (congrArg some (by kernel_rfl))⟩
  f19 := Tryz.func248.trans (congrArg some (by kernel_rfl))
  f20 := Tryz.func249.trans (congrArg some (by kernel_rfl))
  f30 := ⟨Tryz.f310.name, by decide, Tryz.func310.trans (congrArg some (by kernel_rfl))⟩
  f31 := Tryz.func265.trans (congrArg some (by kernel_rfl))
  f32 := Tryz.func266.trans (congrArg some (by kernel_rfl))
  f33 := ⟨Tryz.f311.name, by decide, Tryz.func311.trans (congrArg some (by kernel_rfl))⟩
  f34 := ⟨Tryz.f312.name, by decide, Tryz.func312.trans (congrArg some (by kernel_rfl))⟩
  f35 := ⟨Tryz.f224.name, by decide, Tryz.func224.trans (congrArg some (by kernel_rfl))⟩
  f40 := ⟨Tryz.f313.name, by decide, Tryz.func313.trans (congrArg some (by kernel_rfl))⟩
  t0 := Tryz.underlying0
  a0 := Tryz.isAgg0
  z0 := Tryz.sizeOf0
  v0 := Tryz.zeroValue0
  t3 := Tryz.underlying3
  a3 := Tryz.isAgg3
  z3 := Tryz.sizeOf3
  v3 := Tryz.zeroValue3
  t4 := Tryz.underlying4
  a4 := Tryz.isAgg4
  z4 := Tryz.sizeOf4
  v4 := Tryz.zeroValue4
  t5 := Tryz.underlying5
  a5 := Tryz.isAgg5
  z5 := Tryz.sizeOf5
  v5 := Tryz.zeroValue5
  t9 := Tryz.underlying9
  a9 := Tryz.isAgg9
  z9 := Tryz.sizeOf9
  v9 := Tryz.zeroValue9
  t22 := Tryz.underlying64
  a22 := Tryz.isAgg64
  z22 := Tryz.sizeOf64
  v22 := Tryz.zeroValue64
  t23 := Tryz.underlying64
  a23 := Tryz.isAgg64
  z23 := Tryz.sizeOf64
  v23 := Tryz.zeroValue64
  t25 := Tryz.underlying3
  a25 := Tryz.isAgg3
  z25 := Tryz.sizeOf3
  v25 := Tryz.zeroValue3
  t32 := Tryz.underlying274
  a32 := Tryz.isAgg274
  z32 := Tryz.sizeOf274
  v32 := Tryz.zeroValue274
  t35 := Tryz.underlying289
  a35 := Tryz.isAgg289
  z35 := Tryz.sizeOf289
  v35 := Tryz.zeroValue289
  t36 := Tryz.underlying290
  a36 := Tryz.isAgg290
  z36 := Tryz.sizeOf290
  v36 := Tryz.zeroValue290
  t41 := Tryz.underlying55
  a41 := Tryz.isAgg55
  z41 := Tryz.sizeOf55
  v41 := Tryz.zeroValue55
  t44 := Tryz.underlying296
  a44 := Tryz.isAgg296
  z44 := Tryz.sizeOf296
  v44 := Tryz.zeroValue296
  t46 := Tryz.underlying136
  a46 := Tryz.isAgg136
  z46 := Tryz.sizeOf136
  v46 := Tryz.zeroValue136
  t53 := Tryz.underlying306
  a53 := Tryz.isAgg306
  z53 := Tryz.sizeOf306
  v53 := Tryz.zeroValue306
  t57 := Tryz.underlying310
  a57 := Tryz.isAgg310
  z57 := Tryz.sizeOf310
  v57 := Tryz.zeroValue310
  t63 := Tryz.underlying332
  a63 := Tryz.isAgg332
  z63 := Tryz.sizeOf332
  v63 := Tryz.zeroValue332
  t64 := Tryz.underlying333
  a64 := Tryz.isAgg333
  z64 := Tryz.sizeOf333
  v64 := Tryz.zeroValue333 }
end Go.Proofs
