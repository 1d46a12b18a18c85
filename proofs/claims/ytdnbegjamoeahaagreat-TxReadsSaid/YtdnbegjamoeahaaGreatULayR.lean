/-
  DERIVED: THE SHELF's CONTRACTS AT THIS DUMP, IN PLAIN WORDS (tools/lay-plain.mjs out of 'YtdnbegjamoeahaaGreatULay0.lean', which tools/lay-shelf.mjs wrote): THE SAME DECLARATIONS UNDER THE SAME NAMES: 'import', 'namespace', 'open', 'def', 'theorem' AND NOTHING ELSE: no command of the shelf's: FOR A HAND-IN. Each laying: the table of numbers ('.._ren') and one theorem, a field a fact of the dump's own or the kernel's comparison; each contract: ONE APPLICATION.
-/
import Derived.Shelf.Strings.Repeat
import Derived.Test.YtdnbegjamoeahaaGreatChecked
set_option linter.unusedSimpArgs false
set_option linter.unusedVariables false
namespace Go.Proofs
open Go.Shelf
def YtdnbegjamoeahaaGreatU.repeatS_ren : Go.Shelf.Ren := ⟨fun | 105 => 277 | 212 => 302 | 99 => 303 | 165 => 304 | 166 => 305 | 170 => 306 | 169 => 307 | 263 => 317 | 264 => 318 | 206 => 319 | 240 => 320 | 241 => 321 | 276 => 333 | 277 => 334 | n => n, fun | 9 => 9 | 3 => 3 | 4 => 4 | 20 => 20 | 0 => 0 | 46 => 300 | 109 => 342 | 5 => 5 | 72 => 347 | 76 => 350 | 51 => 321 | 146 => 362 | 53 => 160 | 148 => 364 | 70 => 345 | 37 => 240 | 75 => 349 | 127 => 325 | 164 => 373 | 80 => 352 | n => n, fun | n => n⟩
theorem YtdnbegjamoeahaaGreatU.repeatS : Go.Proofs.Lays.n105 Tryz.prog YtdnbegjamoeahaaGreatU.repeatS_ren := {
  mixed := by kernel_rfl
  f99 := Tryz.func303.trans (congrArg some (by kernel_rfl))
  f105 := Tryz.func277.trans (congrArg some (by kernel_rfl))
  f165 := Tryz.func304.trans (congrArg some (by kernel_rfl))
  f166 := Tryz.func305.trans (congrArg some (by kernel_rfl))
  f169 := Tryz.func307.trans (congrArg some (by kernel_rfl))
  f170 := Tryz.func306.trans (congrArg some (by kernel_rfl))
  f206 := Tryz.func319.trans (congrArg some (by kernel_rfl))
  f212 := Tryz.func302.trans (congrArg some (by kernel_rfl))
  f240 := Tryz.func320.trans (congrArg some (by kernel_rfl))
  f241 := Tryz.func321.trans (congrArg some (by kernel_rfl))
  f263 := Tryz.func317.trans (congrArg some (by kernel_rfl))
  f264 := Tryz.func318.trans (congrArg some (by kernel_rfl))
  f276 := Tryz.func333.trans (congrArg some (by kernel_rfl))
  f277 := Tryz.func334.trans (congrArg some (by kernel_rfl))
  t0 := Tryz.underlying0
  a0 := Tryz.isAgg0
  z0 := Tryz.sizeOf0
  v0 := Tryz.zeroValue0
  t3 := Tryz.underlying3
  a3 := Tryz.isAgg3
  z3 := Tryz.sizeOf3
  v3 := Tryz.zeroValue3
  t4 := Tryz.underlying4
  a4 := Tryz.isAgg4
  z4 := Tryz.sizeOf4
  v4 := Tryz.zeroValue4
  t5 := Tryz.underlying5
  a5 := Tryz.isAgg5
  z5 := Tryz.sizeOf5
  v5 := Tryz.zeroValue5
  t9 := Tryz.underlying9
  a9 := Tryz.isAgg9
  z9 := Tryz.sizeOf9
  v9 := Tryz.zeroValue9
  t20 := Tryz.underlying20
  a20 := Tryz.isAgg20
  z20 := Tryz.sizeOf20
  v20 := Tryz.zeroValue20
  t37 := Tryz.underlying240
  a37 := Tryz.isAgg240
  z37 := Tryz.sizeOf240
  v37 := Tryz.zeroValue240
  t46 := Tryz.underlying300
  a46 := Tryz.isAgg300
  z46 := Tryz.sizeOf300
  v46 := Tryz.zeroValue300
  t51 := Tryz.underlying321
  a51 := Tryz.isAgg321
  z51 := Tryz.sizeOf321
  v51 := Tryz.zeroValue321
  t53 := Tryz.underlying160
  a53 := Tryz.isAgg160
  z53 := Tryz.sizeOf160
  v53 := Tryz.zeroValue160
  t70 := Tryz.underlying345
  a70 := Tryz.isAgg345
  z70 := Tryz.sizeOf345
  v70 := Tryz.zeroValue345
  t72 := Tryz.underlying347
  a72 := Tryz.isAgg347
  z72 := Tryz.sizeOf347
  v72 := Tryz.zeroValue347
  t75 := Tryz.underlying349
  a75 := Tryz.isAgg349
  z75 := Tryz.sizeOf349
  v75 := Tryz.zeroValue349
  t76 := Tryz.underlying350
  a76 := Tryz.isAgg350
  z76 := Tryz.sizeOf350
  v76 := Tryz.zeroValue350
  t109 := Tryz.underlying342
  a109 := Tryz.isAgg342
  z109 := Tryz.sizeOf342
  v109 := Tryz.zeroValue342
  t127 := Tryz.underlying325
  a127 := Tryz.isAgg325
  z127 := Tryz.sizeOf325
  v127 := Tryz.zeroValue325
  t146 := Tryz.underlying362
  a146 := Tryz.isAgg362
  z146 := Tryz.sizeOf362
  v146 := Tryz.zeroValue362
  t148 := Tryz.underlying364
  a148 := Tryz.isAgg364
  z148 := Tryz.sizeOf364
  v148 := Tryz.zeroValue364
  t164 := Tryz.underlying373
  a164 := Tryz.isAgg373
  z164 := Tryz.sizeOf373
  v164 := Tryz.zeroValue373 }
end Go.Proofs
