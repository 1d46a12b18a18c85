/-
  DERIVED: THE SHELF's CONTRACTS AT THIS DUMP, IN PLAIN WORDS (tools/lay-plain.mjs out of 'YtdnbegjamoeahaaGreatULay0.lean', which tools/lay-shelf.mjs wrote): THE SAME DECLARATIONS UNDER THE SAME NAMES: 'import', 'namespace', 'open', 'def', 'theorem' AND NOTHING ELSE: no command of the shelf's: FOR A HAND-IN. Each laying: the table of numbers ('.._ren') and one theorem, a field a fact of the dump's own or the kernel's comparison; each contract: ONE APPLICATION.
-/
import Derived.Shelf.SlIterI.Collect
import Derived.Shelf.SortM.Plain
import Derived.Shelf.SortM.SortNone
import Derived.Ground.GgzProg
import Derived.Ground.SlgmProg
import Derived.Test.YtdnbegjamoeahaaGreatChecked
set_option linter.unusedSimpArgs false
set_option linter.unusedVariables false
namespace Go.Proofs
open Go.Shelf
def YtdnbegjamoeahaaGreatU.keysZ_ren : Go.Shelf.Ren := ⟨fun | 10 => 280 | n => n, fun | 33 => 64 | 23 => 177 | 0 => 0 | 4 => 4 | 26 => 3 | 3 => 9 | n => n, fun | n => n⟩
theorem YtdnbegjamoeahaaGreatU.keysZ : Go.Proofs.SlLaysZI.n10 Tryz.prog YtdnbegjamoeahaaGreatU.keysZ_ren := {
  mixed := by kernel_rfl
  f10 := ⟨Tryz.f280.name, by decide, Tryz.func280.trans (congrArg some (by kernel_rfl))⟩
  t0 := Tryz.underlying0
  a0 := Tryz.isAgg0
  z0 := Tryz.sizeOf0
  v0 := Tryz.zeroValue0
  t4 := Tryz.underlying4
  a4 := Tryz.isAgg4
  z4 := Tryz.sizeOf4
  v4 := Tryz.zeroValue4
  t23 := Tryz.underlying177
  a23 := Tryz.isAgg177
  z23 := Tryz.sizeOf177
  v23 := Tryz.zeroValue177
  t26 := Tryz.underlying3
  a26 := Tryz.isAgg3
  z26 := Tryz.sizeOf3
  v26 := Tryz.zeroValue3
  t33 := Tryz.underlying64
  a33 := Tryz.isAgg64
  z33 := Tryz.sizeOf64
  v33 := Tryz.zeroValue64 }
def YtdnbegjamoeahaaGreatU.collZ_ren : Go.Shelf.Ren := ⟨fun | 8 => 278 | 11 => 308 | n => n, fun | 26 => 3 | 28 => 307 | 24 => 65 | 0 => 0 | 33 => 64 | 4 => 4 | n => n, fun | n => n⟩
theorem YtdnbegjamoeahaaGreatU.collZ : Go.Proofs.SlLaysZI.n8 Tryz.prog YtdnbegjamoeahaaGreatU.collZ_ren := {
  mixed := by kernel_rfl
  f8 := ⟨Tryz.f278.name, by decide, Tryz.func278.trans (congrArg some (by kernel_rfl))⟩
  f11 := ⟨Tryz.f308.name, by decide, Tryz.func308.trans (congrArg some (by kernel_rfl))⟩
  t0 := Tryz.underlying0
  a0 := Tryz.isAgg0
  z0 := Tryz.sizeOf0
  v0 := Tryz.zeroValue0
  t24 := Tryz.underlying65
  a24 := Tryz.isAgg65
  z24 := Tryz.sizeOf65
  v24 := Tryz.zeroValue65
  t26 := Tryz.underlying3
  a26 := Tryz.isAgg3
  z26 := Tryz.sizeOf3
  v26 := Tryz.zeroValue3
  t28 := Tryz.underlying307
  a28 := Tryz.isAgg307
  z28 := Tryz.sizeOf307
  v28 := Tryz.zeroValue307
  i26 := by kernel_rfl }
def YtdnbegjamoeahaaGreatU.sortZ_ren : Go.Shelf.Ren := ⟨fun | 5 => 279 | 8 => 248 | 7 => 309 | 19 => 273 | 20 => 274 | 10 => 322 | 11 => 323 | 12 => 324 | 13 => 325 | 14 => 326 | 15 => 327 | 16 => 328 | 17 => 329 | 18 => 330 | 30 => 335 | 31 => 290 | 32 => 291 | 33 => 336 | 34 => 337 | 35 => 249 | 40 => 338 | n => n, fun | 23 => 65 | 25 => 3 | 3 => 3 | 32 => 300 | 22 => 65 | 0 => 0 | 44 => 321 | 46 => 160 | 4 => 4 | 36 => 315 | 35 => 314 | 41 => 59 | 5 => 5 | 9 => 9 | 53 => 331 | 57 => 335 | 63 => 357 | 64 => 358 | n => n, fun | n => n⟩
theorem YtdnbegjamoeahaaGreatU.sortZ : Go.Proofs.SlLaysM.n5 Tryz.prog YtdnbegjamoeahaaGreatU.sortZ_ren := {
  mixed := by kernel_rfl
  f5 := ⟨Tryz.f279.name, by decide, Tryz.func279.trans (congrArg some (by kernel_rfl))⟩
  f7 := ⟨Tryz.f309.name, by decide, Tryz.func309.trans (congrArg some (by kernel_rfl))⟩
  f8 := Tryz.func248.trans (congrArg some (by kernel_rfl))
  f10 := ⟨Tryz.f322.name, by decide, Tryz.func322.trans (congrArg some (by kernel_rfl))⟩
  f11 := ⟨Tryz.f323.name, by decide, Tryz.func323.trans (congrArg some (by kernel_rfl))⟩
  f12 := ⟨Tryz.f324.name, by decide, Tryz.func324.trans (congrArg some (by kernel_rfl))⟩
  f13 := ⟨Tryz.f325.name, by decide, Tryz.func325.trans (congrArg some (by kernel_rfl))⟩
  f14 := ⟨Tryz.f326.name, by decide, Tryz.func326.trans (congrArg some (by kernel_rfl))⟩
  f15 := ⟨Tryz.f327.name, by decide, Tryz.func327.trans (congrArg some (by kernel_rfl))⟩
  f16 := ⟨Tryz.f328.name, by decide, Tryz.func328.trans (congrArg some (by kernel_rfl))⟩
  f17 := ⟨Tryz.f329.name, by decide, Tryz.func329.trans (congrArg some (by kernel_rfl))⟩
  f18 := ⟨Tryz.f330.name, by decide, Tryz.func330.trans (congrArg some (by kernel_rfl))⟩
  f19 := Tryz.func273.trans (congrArg some (by kernel_rfl))
  f20 := Tryz.func274.trans (congrArg some (by kernel_rfl))
  f30 := ⟨Tryz.f335.name, by decide, Tryz.func335.trans (congrArg some (by kernel_rfl))⟩
  f31 := Tryz.func290.trans (congrArg some (by kernel_rfl))
  f32 := Tryz.func291.trans (congrArg some (by kernel_rfl))
  f33 := ⟨Tryz.f336.name, by decide, Tryz.func336.trans (congrArg some (by kernel_rfl))⟩
  f34 := ⟨Tryz.f337.name, by decide, Tryz.func337.trans (congrArg some (by kernel_rfl))⟩
  f35 := ⟨Tryz.f249.name, by decide, Tryz.func249.trans (congrArg some (by kernel_rfl))⟩
  f40 := ⟨Tryz.f338.name, by decide, Tryz.func338.trans (congrArg some (by kernel_rfl))⟩
  t0 := Tryz.underlying0
  a0 := Tryz.isAgg0
  z0 := Tryz.sizeOf0
  v0 := Tryz.zeroValue0
  t3 := Tryz.underlying3
  a3 := Tryz.isAgg3
  z3 := Tryz.sizeOf3
  v3 := Tryz.zeroValue3
  t4 := Tryz.underlying4
  a4 := Tryz.isAgg4
  z4 := Tryz.sizeOf4
  v4 := Tryz.zeroValue4
  t5 := Tryz.underlying5
  a5 := Tryz.isAgg5
  z5 := Tryz.sizeOf5
  v5 := Tryz.zeroValue5
  t9 := Tryz.underlying9
  a9 := Tryz.isAgg9
  z9 := Tryz.sizeOf9
  v9 := Tryz.zeroValue9
  t22 := Tryz.underlying65
  a22 := Tryz.isAgg65
  z22 := Tryz.sizeOf65
  v22 := Tryz.zeroValue65
  t23 := Tryz.underlying65
  a23 := Tryz.isAgg65
  z23 := Tryz.sizeOf65
  v23 := Tryz.zeroValue65
  t25 := Tryz.underlying3
  a25 := Tryz.isAgg3
  z25 := Tryz.sizeOf3
  v25 := Tryz.zeroValue3
  t32 := Tryz.underlying300
  a32 := Tryz.isAgg300
  z32 := Tryz.sizeOf300
  v32 := Tryz.zeroValue300
  t35 := Tryz.underlying314
  a35 := Tryz.isAgg314
  z35 := Tryz.sizeOf314
  v35 := Tryz.zeroValue314
  t36 := Tryz.underlying315
  a36 := Tryz.isAgg315
  z36 := Tryz.sizeOf315
  v36 := Tryz.zeroValue315
  t41 := Tryz.underlying59
  a41 := Tryz.isAgg59
  z41 := Tryz.sizeOf59
  v41 := Tryz.zeroValue59
  t44 := Tryz.underlying321
  a44 := Tryz.isAgg321
  z44 := Tryz.sizeOf321
  v44 := Tryz.zeroValue321
  t46 := Tryz.underlying160
  a46 := Tryz.isAgg160
  z46 := Tryz.sizeOf160
  v46 := Tryz.zeroValue160
  t53 := Tryz.underlying331
  a53 := Tryz.isAgg331
  z53 := Tryz.sizeOf331
  v53 := Tryz.zeroValue331
  t57 := Tryz.underlying335
  a57 := Tryz.isAgg335
  z57 := Tryz.sizeOf335
  v57 := Tryz.zeroValue335
  t63 := Tryz.underlying357
  a63 := Tryz.isAgg357
  z63 := Tryz.sizeOf357
  v63 := Tryz.zeroValue357
  t64 := Tryz.underlying358
  a64 := Tryz.isAgg358
  z64 := Tryz.sizeOf358
  v64 := Tryz.zeroValue358 }
end Go.Proofs
