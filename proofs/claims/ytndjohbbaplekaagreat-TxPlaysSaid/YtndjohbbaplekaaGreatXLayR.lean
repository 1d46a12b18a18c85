/-
  DERIVED: THE SHELF's CONTRACTS AT THIS DUMP, IN PLAIN WORDS (tools/lay-plain.mjs out of 'YtndjohbbaplekaaGreatXLay0.lean', which tools/lay-shelf.mjs wrote): THE SAME DECLARATIONS UNDER THE SAME NAMES: 'import', 'namespace', 'open', 'def', 'theorem' AND NOTHING ELSE: no command of the shelf's: FOR A HAND-IN. Each laying: the table of numbers ('.._ren') and one theorem, a field a fact of the dump's own or the kernel's comparison; each contract: ONE APPLICATION.
-/
import Derived.Shelf.Strings.Repeat
import Derived.Test.YtndjohbbaplekaaGreatChecked
set_option linter.unusedSimpArgs false
set_option linter.unusedVariables false
namespace Go.Proofs
open Go.Shelf
def YtndjohbbaplekaaGreatX.repeatS_ren : Go.Shelf.Ren := ⟨fun | 105 => 252 | 212 => 277 | 99 => 278 | 165 => 279 | 166 => 280 | 170 => 281 | 169 => 282 | 263 => 292 | 264 => 293 | 206 => 294 | 240 => 295 | 241 => 296 | 276 => 308 | 277 => 309 | n => n, fun | 9 => 9 | 3 => 3 | 4 => 4 | 20 => 20 | 0 => 0 | 46 => 274 | 109 => 317 | 5 => 5 | 72 => 322 | 76 => 325 | 51 => 296 | 146 => 337 | 53 => 136 | 148 => 339 | 70 => 320 | 37 => 212 | 75 => 324 | 127 => 300 | 164 => 348 | 80 => 327 | n => n, fun | n => n⟩
theorem YtndjohbbaplekaaGreatX.repeatS : Go.Proofs.Lays.n105 Tryz.prog YtndjohbbaplekaaGreatX.repeatS_ren := {
  mixed := by kernel_rfl
  f99 := Tryz.func278.trans (congrArg some (by kernel_rfl))
  f105 := Tryz.func252.trans (congrArg some (by kernel_rfl))
  f165 := Tryz.func279.trans (congrArg some (by kernel_rfl))
  f166 := Tryz.func280.trans (congrArg some (by kernel_rfl))
  f169 := Tryz.func282.trans (congrArg some (by kernel_rfl))
  f170 := Tryz.func281.trans (congrArg some (by kernel_rfl))
  f206 := Tryz.func294.trans (congrArg some (by kernel_rfl))
  f212 := Tryz.func277.trans (congrArg some (by kernel_rfl))
  f240 := Tryz.func295.trans (congrArg some (by kernel_rfl))
  f241 := Tryz.func296.trans (congrArg some (by kernel_rfl))
  f263 := Tryz.func292.trans (congrArg some (by kernel_rfl))
  f264 := Tryz.func293.trans (congrArg some (by kernel_rfl))
  f276 := Tryz.func308.trans (congrArg some (by kernel_rfl))
  f277 := Tryz.func309.trans (congrArg some (by kernel_rfl))
  t0 := Tryz.underlying0
  a0 := Tryz.isAgg0
  z0 := Tryz.sizeOf0
  v0 := Tryz.zeroValue0
  t3 := Tryz.underlying3
  a3 := Tryz.isAgg3
  z3 := Tryz.sizeOf3
  v3 := Tryz.zeroValue3
  t4 := Tryz.underlying4
  a4 := Tryz.isAgg4
  z4 := Tryz.sizeOf4
  v4 := Tryz.zeroValue4
  t5 := Tryz.underlying5
  a5 := Tryz.isAgg5
  z5 := Tryz.sizeOf5
  v5 := Tryz.zeroValue5
  t9 := Tryz.underlying9
  a9 := Tryz.isAgg9
  z9 := Tryz.sizeOf9
  v9 := Tryz.zeroValue9
  t20 := Tryz.underlying20
  a20 := Tryz.isAgg20
  z20 := Tryz.sizeOf20
  v20 := Tryz.zeroValue20
  t37 := Tryz.underlying212
  a37 := Tryz.isAgg212
  z37 := Tryz.sizeOf212
  v37 := Tryz.zeroValue212
  t46 := Tryz.underlying274
  a46 := Tryz.isAgg274
  z46 := Tryz.sizeOf274
  v46 := Tryz.zeroValue274
  t51 := Tryz.underlying296
  a51 := Tryz.isAgg296
  z51 := Tryz.sizeOf296
  v51 := Tryz.zeroValue296
  t53 := Tryz.underlying136
  a53 := Tryz.isAgg136
  z53 := Tryz.sizeOf136
  v53 := Tryz.zeroValue136
  t70 := Tryz.underlying320
  a70 := Tryz.isAgg320
  z70 := Tryz.sizeOf320
  v70 := Tryz.zeroValue320
  t72 := Tryz.underlying322
  a72 := Tryz.isAgg322
  z72 := Tryz.sizeOf322
  v72 := Tryz.zeroValue322
  t75 := Tryz.underlying324
  a75 := Tryz.isAgg324
  z75 := Tryz.sizeOf324
  v75 := Tryz.zeroValue324
  t76 := Tryz.underlying325
  a76 := Tryz.isAgg325
  z76 := Tryz.sizeOf325
  v76 := Tryz.zeroValue325
  t109 := Tryz.underlying317
  a109 := Tryz.isAgg317
  z109 := Tryz.sizeOf317
  v109 := Tryz.zeroValue317
  t127 := Tryz.underlying300
  a127 := Tryz.isAgg300
  z127 := Tryz.sizeOf300
  v127 := Tryz.zeroValue300
  t146 := Tryz.underlying337
  a146 := Tryz.isAgg337
  z146 := Tryz.sizeOf337
  v146 := Tryz.zeroValue337
  t148 := Tryz.underlying339
  a148 := Tryz.isAgg339
  z148 := Tryz.sizeOf339
  v148 := Tryz.zeroValue339
  t164 := Tryz.underlying348
  a164 := Tryz.isAgg348
  z164 := Tryz.sizeOf348
  v164 := Tryz.zeroValue348 }
end Go.Proofs
