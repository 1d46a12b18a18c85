/- What SpanTells computes: true. Conditions: none. -/
import Derived.Test.YtndjohbbaplekaaGreatPSpanR
import Derived.Test.YtndjohbbaplekaaGreatPSpanG
import Derived.Test.YtndjohbbaplekaaGreatPBookP
import Derived.Test.YtndjohbbaplekaaGreatPBookLSpans
set_option linter.unusedSimpArgs false
set_option linter.unusedVariables false
namespace Go.Proofs.YtndjohbbaplekaaGreatP
open Go.Sh
set_option maxRecDepth 100000
def P4_2 (J_5 : Cur 2) (t142 : Value) (t226 : Value) (t227 : Value) (t42 : Value) (v_k_1 : Value) (v_most_2 : Value) (w_233 : World) (Q : Value → World → Prop) : Prop :=
 callS Tryz.prog 19 #[t42, t226] (fun _ w_234 => 
   lp 2 (fun J_7 => fun v_at v_i_1 w_235 => ∀ _j : Fr, 
    pur Tryz.prog (Builtin.len_ #[70] 3 #[t142]) fun t244 => 
    pur Tryz.prog (binS .lss 3 false false v_i_1 t244) fun t245 => 
    gd t245 true (fun k_74 w_236 => k_74 t227 w_236) (fun t247_1 w_237 => 
    pur Tryz.prog (pickS t245 t247_1 (.bool false)) fun t248 => 
    condS t248
     (pur Tryz.prog (Instr.indexAt 70 t142 v_i_1) fun t253 => 
    pur Tryz.prog (Instr.fieldAt 72 t253 0) fun t254 => 
    rd Tryz.prog (Instr.loadAt 3 t254) (fun t255 => 
    lp 2 (fun J_8 => fun v_at_1 v_v w_238 => ∀ _j : Fr, 
     pur Tryz.prog (Instr.indexAt 70 t142 v_i_1) fun t259 => 
     pur Tryz.prog (Instr.fieldAt 72 t259 1) fun t260 => 
     rd Tryz.prog (Instr.loadAt 3 t260) (fun t261 => 
     pur Tryz.prog (binS .lss 3 false false v_v t261) fun t262 => 
     condS t262
      (pur Tryz.prog (Builtin.len_ #[64] 3 #[t226]) fun t267 => 
     pur Tryz.prog (binS .geq 3 false false v_at_1 t267) fun t268 => 
     gd t268 false (fun k_75 w_239 => k_75 t226 w_239) (fun t270_1 w_240 => 
     gd t268 false (fun k_76 w_241 => k_76 v_at_1 w_241) (fun t271_1 w_242 => 
     gd t268 false (fun k_77 w_243 => pur Tryz.prog (Instr.indexAt 64 t270_1 t271_1) fun t272 => k_77 t272 w_243) (fun t272_1 w_244 => 
     gd t268 false (fun k_78 w_245 => rd Tryz.prog (Instr.loadAt 3 t272_1) (fun t273 => k_78 t273 w_245) w_245) (fun t273_1 w_246 => 
     gd t268 false (fun k_79 w_247 => k_79 v_v w_247) (fun t274_1 w_248 => 
     gd t268 false (fun k_80 w_249 => pur Tryz.prog (binS .neq 3 false false t273_1 t274_1) fun t275 => k_80 t275 w_249) (fun t275_1 w_250 => 
     pur Tryz.prog (pickS t268 (.bool true) t275_1) fun t276 => 
     condS t276
      (Q (.bool false) w_250)
      (pur Tryz.prog (binS .add 3 false true v_at_1 (.int .i64 1)) fun t278 => 
     pur Tryz.prog (binS .add 3 false true v_v (.int .i64 1)) fun t264 => 
     J_8 t278 t264 w_250)) w_248) w_246) w_244) w_242) w_240) w_238)
      (pur Tryz.prog (binS .add 3 false true v_i_1 (.int .i64 1)) fun t250 => 
    J_7 v_at_1 t250 w_238)) w_238) [v_at, t255] w_237) w_237)
     (pur Tryz.prog (Builtin.len_ #[64] 3 #[t226]) fun t281 => 
   pur Tryz.prog (binS .neq 3 false false v_at t281) fun t282 => 
   condS t282
    (Q (.bool false) w_237)
    (pur Tryz.prog (binS .add 3 false true v_k_1 (.int .i64 1)) fun t136 => 
  J_5 v_most_2 t136 w_237))) w_235) [(.int .i64 0), (.int .i64 0)] w_234) w_233
def P4_1 (J : Cur 1) (t11 : Value) (v_b : Value) (v_i : Value) (w_61 : World) (Q : Value → World → Prop) : Prop :=
 lp 1 (fun J_2 => fun v_k w_62 => ∀ _j : Fr, 
    pur Tryz.prog (Builtin.len_ #[70] 3 #[v_b]) fun t93 => 
    pur Tryz.prog (binS .lss 3 false false v_k t93) fun t94 => 
    condS t94
     (jn 2 (fun J_3 => 
     pur Tryz.prog (Instr.indexAt 70 v_b v_k) fun t101 => 
     (rd Tryz.prog (Instr.loadAt 72 t11) (fun t98 => 
     (rd Tryz.prog (Instr.loadAt 72 t101) (fun t102 => 
     (callS Tryz.prog 28 #[t98, t102] (fun t103 w_63 => 
     pur Tryz.prog (Instr.extract t103 0) fun t104 => 
     pur Tryz.prog (Instr.extract t103 1) fun t105 => 
     act Tryz.prog (Instr.alloc 72 true (.tuple #[])) (fun t14 w_64 => 
     act Tryz.prog (thenU (Instr.storeAt 72 t14 t104)) (fun _ w_65 => 
     J_3 t14 t105 w_65) w_64) w_63) (World.drew w_62)
     ) ∧ (act Tryz.prog (Instr.alloc 72 true (.tuple #[])) (fun t14_1 w_66 => 
     callS Tryz.prog 28 #[t98, t102] (fun t103_1 w_67 => 
     pur Tryz.prog (Instr.extract t103_1 0) fun t104_1 => 
     pur Tryz.prog (Instr.extract t103_1 1) fun t105_1 => 
     act Tryz.prog (thenU (Instr.storeAt 72 t14_1 t104_1)) (fun _ w_68 => 
     J_3 t14_1 t105_1 w_68) w_67) w_66) (World.drew w_62))) (World.drew w_62)
     ) ∧ (act Tryz.prog (Instr.alloc 72 true (.tuple #[])) (fun t14_2 w_69 => 
     rd Tryz.prog (Instr.loadAt 72 t101) (fun t102_1 => 
     callS Tryz.prog 28 #[t98, t102_1] (fun t103_2 w_70 => 
     pur Tryz.prog (Instr.extract t103_2 0) fun t104_2 => 
     pur Tryz.prog (Instr.extract t103_2 1) fun t105_2 => 
     act Tryz.prog (thenU (Instr.storeAt 72 t14_2 t104_2)) (fun _ w_71 => 
     J_3 t14_2 t105_2 w_71) w_70) w_69) w_69) (World.drew w_62))) (World.drew w_62)
     ) ∧ (rd Tryz.prog (Instr.loadAt 72 t101) (fun t102_2 => 
     (rd Tryz.prog (Instr.loadAt 72 t11) (fun t98_1 => 
     (callS Tryz.prog 28 #[t98_1, t102_2] (fun t103_3 w_72 => 
     pur Tryz.prog (Instr.extract t103_3 0) fun t104_3 => 
     pur Tryz.prog (Instr.extract t103_3 1) fun t105_3 => 
     act Tryz.prog (Instr.alloc 72 true (.tuple #[])) (fun t14_3 w_73 => 
     act Tryz.prog (thenU (Instr.storeAt 72 t14_3 t104_3)) (fun _ w_74 => 
     J_3 t14_3 t105_3 w_74) w_73) w_72) (World.drew w_62)
     ) ∧ (act Tryz.prog (Instr.alloc 72 true (.tuple #[])) (fun t14_4 w_75 => 
     callS Tryz.prog 28 #[t98_1, t102_2] (fun t103_4 w_76 => 
     pur Tryz.prog (Instr.extract t103_4 0) fun t104_4 => 
     pur Tryz.prog (Instr.extract t103_4 1) fun t105_4 => 
     act Tryz.prog (thenU (Instr.storeAt 72 t14_4 t104_4)) (fun _ w_77 => 
     J_3 t14_4 t105_4 w_77) w_76) w_75) (World.drew w_62))) (World.drew w_62)
     ) ∧ (act Tryz.prog (Instr.alloc 72 true (.tuple #[])) (fun t14_5 w_78 => 
     rd Tryz.prog (Instr.loadAt 72 t11) (fun t98_2 => 
     callS Tryz.prog 28 #[t98_2, t102_2] (fun t103_5 w_79 => 
     pur Tryz.prog (Instr.extract t103_5 0) fun t104_5 => 
     pur Tryz.prog (Instr.extract t103_5 1) fun t105_5 => 
     act Tryz.prog (thenU (Instr.storeAt 72 t14_5 t104_5)) (fun _ w_80 => 
     J_3 t14_5 t105_5 w_80) w_79) w_78) w_78) (World.drew w_62))) (World.drew w_62)
     ) ∧ (act Tryz.prog (Instr.alloc 72 true (.tuple #[])) (fun t14_6 w_81 => 
     rd Tryz.prog (Instr.loadAt 72 t11) (fun t98_3 => 
     rd Tryz.prog (Instr.loadAt 72 t101) (fun t102_3 => 
     callS Tryz.prog 28 #[t98_3, t102_3] (fun t103_6 w_82 => 
     pur Tryz.prog (Instr.extract t103_6 0) fun t104_6 => 
     pur Tryz.prog (Instr.extract t103_6 1) fun t105_6 => 
     act Tryz.prog (thenU (Instr.storeAt 72 t14_6 t104_6)) (fun _ w_83 => 
     J_3 t14_6 t105_6 w_83) w_82) w_81) w_81) w_81) (World.drew w_62)))
    (fun v_x v_ok w_84 => ∀ _j : Fr, 
     jn 2 (fun J_4 => 
     pur Tryz.prog (Instr.indexAt 70 v_b v_k) fun t110 => 
     (rd Tryz.prog (Instr.loadAt 72 t11) (fun t107 => 
     (rd Tryz.prog (Instr.loadAt 72 t110) (fun t111 => 
     (callS Tryz.prog 29 #[t107, t111] (fun t112 w_85 => 
     pur Tryz.prog (Instr.extract t112 0) fun t113 => 
     pur Tryz.prog (Instr.extract t112 1) fun t114 => 
     act Tryz.prog (Instr.alloc 72 true (.tuple #[])) (fun t16 w_86 => 
     act Tryz.prog (thenU (Instr.storeAt 72 t16 t113)) (fun _ w_87 => 
     J_4 t16 t114 w_87) w_86) w_85) (World.drew w_84)
     ) ∧ (act Tryz.prog (Instr.alloc 72 true (.tuple #[])) (fun t16_1 w_88 => 
     callS Tryz.prog 29 #[t107, t111] (fun t112_1 w_89 => 
     pur Tryz.prog (Instr.extract t112_1 0) fun t113_1 => 
     pur Tryz.prog (Instr.extract t112_1 1) fun t114_1 => 
     act Tryz.prog (thenU (Instr.storeAt 72 t16_1 t113_1)) (fun _ w_90 => 
     J_4 t16_1 t114_1 w_90) w_89) w_88) (World.drew w_84))) (World.drew w_84)
     ) ∧ (act Tryz.prog (Instr.alloc 72 true (.tuple #[])) (fun t16_2 w_91 => 
     rd Tryz.prog (Instr.loadAt 72 t110) (fun t111_1 => 
     callS Tryz.prog 29 #[t107, t111_1] (fun t112_2 w_92 => 
     pur Tryz.prog (Instr.extract t112_2 0) fun t113_2 => 
     pur Tryz.prog (Instr.extract t112_2 1) fun t114_2 => 
     act Tryz.prog (thenU (Instr.storeAt 72 t16_2 t113_2)) (fun _ w_93 => 
     J_4 t16_2 t114_2 w_93) w_92) w_91) w_91) (World.drew w_84))) (World.drew w_84)
     ) ∧ (rd Tryz.prog (Instr.loadAt 72 t110) (fun t111_2 => 
     (rd Tryz.prog (Instr.loadAt 72 t11) (fun t107_1 => 
     (callS Tryz.prog 29 #[t107_1, t111_2] (fun t112_3 w_94 => 
     pur Tryz.prog (Instr.extract t112_3 0) fun t113_3 => 
     pur Tryz.prog (Instr.extract t112_3 1) fun t114_3 => 
     act Tryz.prog (Instr.alloc 72 true (.tuple #[])) (fun t16_3 w_95 => 
     act Tryz.prog (thenU (Instr.storeAt 72 t16_3 t113_3)) (fun _ w_96 => 
     J_4 t16_3 t114_3 w_96) w_95) w_94) (World.drew w_84)
     ) ∧ (act Tryz.prog (Instr.alloc 72 true (.tuple #[])) (fun t16_4 w_97 => 
     callS Tryz.prog 29 #[t107_1, t111_2] (fun t112_4 w_98 => 
     pur Tryz.prog (Instr.extract t112_4 0) fun t113_4 => 
     pur Tryz.prog (Instr.extract t112_4 1) fun t114_4 => 
     act Tryz.prog (thenU (Instr.storeAt 72 t16_4 t113_4)) (fun _ w_99 => 
     J_4 t16_4 t114_4 w_99) w_98) w_97) (World.drew w_84))) (World.drew w_84)
     ) ∧ (act Tryz.prog (Instr.alloc 72 true (.tuple #[])) (fun t16_5 w_100 => 
     rd Tryz.prog (Instr.loadAt 72 t11) (fun t107_2 => 
     callS Tryz.prog 29 #[t107_2, t111_2] (fun t112_5 w_101 => 
     pur Tryz.prog (Instr.extract t112_5 0) fun t113_5 => 
     pur Tryz.prog (Instr.extract t112_5 1) fun t114_5 => 
     act Tryz.prog (thenU (Instr.storeAt 72 t16_5 t113_5)) (fun _ w_102 => 
     J_4 t16_5 t114_5 w_102) w_101) w_100) w_100) (World.drew w_84))) (World.drew w_84)
     ) ∧ (act Tryz.prog (Instr.alloc 72 true (.tuple #[])) (fun t16_6 w_103 => 
     rd Tryz.prog (Instr.loadAt 72 t11) (fun t107_3 => 
     rd Tryz.prog (Instr.loadAt 72 t110) (fun t111_3 => 
     callS Tryz.prog 29 #[t107_3, t111_3] (fun t112_6 w_104 => 
     pur Tryz.prog (Instr.extract t112_6 0) fun t113_6 => 
     pur Tryz.prog (Instr.extract t112_6 1) fun t114_6 => 
     act Tryz.prog (thenU (Instr.storeAt 72 t16_6 t113_6)) (fun _ w_105 => 
     J_4 t16_6 t114_6 w_105) w_104) w_103) w_103) w_103) (World.drew w_84)))
    (fun v_y v_is w_106 => ∀ _j : Fr, 
     rd Tryz.prog (Instr.loadAt 72 v_x) (fun t115 => 
    rd Tryz.prog (Instr.loadAt 72 v_y) (fun t116 => 
    rd Tryz.prog (binS .neq 72 false false t115 t116) (fun t117 => 
    gd t117 false (fun k_25 w_107 => k_25 v_ok w_107) (fun t119_1 w_108 => 
    gd t117 false (fun k_26 w_109 => k_26 v_is w_109) (fun t120_1 w_110 => 
    gd t117 false (fun k_27 w_111 => pur Tryz.prog (binS .neq 4 false false t119_1 t120_1) fun t121 => k_27 t121 w_111) (fun t121_1 w_112 => 
    pur Tryz.prog (pickS t117 (.bool true) t121_1) fun t122 => 
    gd t122 false (fun k_28 w_113 => rd Tryz.prog (Instr.loadAt 72 t11) (fun t124 => k_28 t124 w_113) w_113) (fun t124_1 w_114 => 
    gd t122 false (fun k_29 w_115 => k_29 v_b w_115) (fun t125_1 w_116 => 
    gd t122 false (fun k_30 w_117 => k_30 v_k w_117) (fun t126_1 w_118 => 
    gd t122 false (fun k_31 w_119 => pur Tryz.prog (Instr.indexAt 70 t125_1 t126_1) fun t127 => k_31 t127 w_119) (fun t127_1 w_120 => 
    gd t122 false (fun k_32 w_121 => rd Tryz.prog (Instr.loadAt 72 t127_1) (fun t128 => k_32 t128 w_121) w_121) (fun t128_1 w_122 => 
    gd t122 false (fun k_33 w_123 => callS Tryz.prog 30 #[t124_1, t128_1] (fun t129 w_124 => k_33 t129 w_124) w_123) (fun t129_1 w_125 => 
    gd t122 false (fun k_34 w_126 => k_34 v_is w_126) (fun t130_1 w_127 => 
    gd t122 false (fun k_35 w_128 => pur Tryz.prog (binS .neq 4 false false t129_1 t130_1) fun t131 => k_35 t131 w_128) (fun t131_1 w_129 => 
    pur Tryz.prog (pickS t122 (.bool true) t131_1) fun t132 => 
    condS t132
     (Q (.bool false) w_129)
     (pur Tryz.prog (binS .add 3 false true v_k (.int .i64 1)) fun t96 => 
    J_2 t96 w_129)) w_127) w_125) w_122) w_120) w_118) w_116) w_114) w_112) w_110) w_108) (World.drew w_106)) (World.drew w_106)) (World.drew w_106)) (World.drew w_106))))
     (pur Tryz.prog (binS .add 3 false true v_i (.int .i64 1)) fun t48 => 
  J t48 w_62)) [(.int .i64 0)] w_61
def P4_0 (v_a v_b v_block v_most : Value) (Q : Value → World → Prop) (w : World) : Prop :=
 pur Tryz.prog (Builtin.len_ #[70] 3 #[v_a]) fun t33 => 
 pur Tryz.prog (binS .gtr 3 false true t33 (.int .i64 40)) fun t34 => 
 gd t34 false (fun k w_1 => k v_b w_1) (fun t36_1 w_2 => 
 gd t34 false (fun k_1 w_3 => pur Tryz.prog (Builtin.len_ #[70] 3 #[t36_1]) fun t37 => k_1 t37 w_3) (fun t37_1 w_4 => 
 gd t34 false (fun k_2 w_5 => pur Tryz.prog (binS .gtr 3 false true t37_1 (.int .i64 40)) fun t38 => k_2 t38 w_5) (fun t38_1 w_6 => 
 pur Tryz.prog (pickS t34 (.bool true) t38_1) fun t39 => 
 condS t39
  (callS Tryz.prog 23 #[] (fun t40 w_7 => 
  Q t40 w_7) w_6)
  (pur Tryz.prog (Instr.build 51 #[]) fun t41 => 
 act Tryz.prog (Instr.box 51 t41) (fun t42 w_8 => 
 lp 1 (fun J => fun v_i w_9 => ∀ _j : Fr, 
  pur Tryz.prog (Builtin.len_ #[70] 3 #[v_a]) fun t45 => 
  pur Tryz.prog (binS .lss 3 false false v_i t45) fun t46 => 
  condS t46
   (pur Tryz.prog (Instr.indexAt 70 v_a v_i) fun t51 => 
  rd Tryz.prog (Instr.loadAt 72 t51) (fun t52 => 
  act Tryz.prog (Instr.alloc 72 true (.tuple #[])) (fun t11 w_10 => 
  act Tryz.prog (thenU (Instr.storeAt 72 t11 t52)) (fun _ w_11 => 
  jn 1 (fun J_1 => 
   rd Tryz.prog (Instr.loadAt 72 t11) (fun t53 => 
   callS Tryz.prog 24 #[t53] (fun t54 w_12 => 
   condS t54
    (pur Tryz.prog (Instr.fieldAt 72 t11 1) fun t55 => 
    rd Tryz.prog (Instr.loadAt 3 t55) (fun t56 => 
    pur Tryz.prog (Instr.fieldAt 72 t11 0) fun t57 => 
    rd Tryz.prog (Instr.loadAt 3 t57) (fun t58 => 
    pur Tryz.prog (binS .sub 3 false false t56 t58) fun t59 => 
    J_1 t59 w_12) w_12) w_12)
    (J_1 (.int .i64 0) w_12)) w_11) w_11)
  (fun v_n w_13 => ∀ _j : Fr, 
   ∃ S : World → Prop, S (World.drew w_13) ∧ 
   hld Tryz.prog S (Instr.loadAt 72 t11) fun t60 => 
   callS Tryz.prog 25 #[t60] (fun t61 w_14 => S w_14 ∧ 
   hld Tryz.prog S (Instr.loadAt 72 t11) fun t62 => 
   callS Tryz.prog 24 #[t62] (fun t63 w_15 => S w_15 ∧ 
   pur Tryz.prog (binS .neq 4 false false t61 t63) fun t64 => 
   gd t64 false (fun k_3 w_16 => hld Tryz.prog S (Instr.loadAt 72 t11) fun t66 => k_3 t66 w_16) (fun t66_1 w_17 => 
   gd t64 false (fun k_4 w_18 => callS Tryz.prog 26 #[t66_1] (fun t67 w_19 => S w_19 ∧ k_4 t67 w_19) w_18) (fun t67_1 w_20 => 
   gd t64 false (fun k_5 w_21 => k_5 v_n w_21) (fun t68_1 w_22 => 
   gd t64 false (fun k_6 w_23 => pur Tryz.prog (binS .neq 3 false false t67_1 t68_1) fun t69 => k_6 t69 w_23) (fun t69_1 w_24 => 
   pur Tryz.prog (pickS t64 (.bool true) t69_1) fun t70 => 
   gd t70 false (fun k_7 w_25 => hld Tryz.prog S (Instr.loadAt 72 t11) fun t72 => k_7 t72 w_25) (fun t72_1 w_26 => 
   gd t70 false (fun k_8 w_27 => k_8 v_block w_27) (fun t73_1 w_28 => 
   gd t70 false (fun k_9 w_29 => callS Tryz.prog 27 #[t72_1, t73_1] (fun t74 w_30 => S w_30 ∧ k_9 t74 w_30) w_29) (fun t74_1 w_31 => 
   gd t70 false (fun k_10 w_32 => k_10 v_n w_32) (fun t75_1 w_33 => 
   gd t70 false (fun k_11 w_34 => pur Tryz.prog (binS .gtr 3 false true t75_1 (.int .i64 0)) fun t76 => k_11 t76 w_34) (fun t76_1 w_35 => 
   gd t70 false (fun k_12 w_36 => k_12 t76_1 w_36) (fun t77_1 w_37 => 
   gd t77_1 true (fun k_13 w_38 => pur Tryz.prog (Instr.fieldAt 72 t11 0) fun t78 => k_13 t78 w_38) (fun t78_1 w_39 => 
   gd t77_1 true (fun k_14 w_40 => hld Tryz.prog S (Instr.loadAt 3 t78_1) fun t79 => k_14 t79 w_40) (fun t79_1 w_41 => 
   gd t77_1 true (fun k_15 w_42 => k_15 v_block w_42) (fun t80_1 w_43 => 
   gd t77_1 true (fun k_16 w_44 => pur Tryz.prog (binS .leq 3 false false t79_1 t80_1) fun t81 => k_16 t81 w_44) (fun t81_1 w_45 => 
   gd t70 false (fun k_17 w_46 => pur Tryz.prog (pickS t77_1 t81_1 (.bool false)) fun t82 => k_17 t82 w_46) (fun t82_1 w_47 => 
   gd t70 false (fun k_18 w_48 => k_18 t82_1 w_48) (fun t83_1 w_49 => 
   gd t83_1 true (fun k_19 w_50 => k_19 v_block w_50) (fun t84_1 w_51 => 
   gd t83_1 true (fun k_20 w_52 => pur Tryz.prog (Instr.fieldAt 72 t11 1) fun t85 => k_20 t85 w_52) (fun t85_1 w_53 => 
   gd t83_1 true (fun k_21 w_54 => hld Tryz.prog S (Instr.loadAt 3 t85_1) fun t86 => k_21 t86 w_54) (fun t86_1 w_55 => 
   gd t83_1 true (fun k_22 w_56 => pur Tryz.prog (binS .lss 3 false false t84_1 t86_1) fun t87 => k_22 t87 w_56) (fun t87_1 w_57 => 
   gd t70 false (fun k_23 w_58 => pur Tryz.prog (pickS t83_1 t87_1 (.bool false)) fun t88 => k_23 t88 w_58) (fun t88_1 w_59 => 
   gd t70 false (fun k_24 w_60 => pur Tryz.prog (binS .neq 4 false false t74_1 t88_1) fun t89 => k_24 t89 w_60) (fun t89_1 w_61 => 
   pur Tryz.prog (pickS t70 (.bool true) t89_1) fun t90 => 
   condS t90
    (Q (.bool false) w_61)
    (P4_1 J t11 v_b v_i w_61 Q)) w_59) w_57) w_55) w_53) w_51) w_49) w_47) w_45) w_43) w_41) w_39) w_37) w_35) w_33) w_31) w_28) w_26) w_24) w_22) w_20) w_17) w_15) w_14) (World.drew w_13))) w_10) w_9) w_9)
   (lp 2 (fun J_5 => fun v_most_1 v_k_1 w_130 => ∀ _j : Fr, 
  pur Tryz.prog (binS .lss 3 false true v_k_1 (.int .i64 2)) fun t134 => 
  condS t134
   (callS Tryz.prog 31 #[v_a] (fun t138 w_131 => 
  callS Tryz.prog 31 #[v_b] (fun t140 w_132 => 
  callS Tryz.prog 32 #[v_a] (fun t142 w_133 => 
  act Tryz.prog (Builtin.append_ #[70, 70] 70 #[(.slice none 0 0), v_a]) (fun t144 w_134 => 
  act Tryz.prog (Builtin.append_ #[70, 70] 70 #[t144, v_b]) (fun t146 w_135 => 
  callS Tryz.prog 32 #[t146] (fun t147 w_136 => 
  callS Tryz.prog 33 #[t138] (fun t149 w_137 => 
  callS Tryz.prog 34 #[t138, t140] (fun t152 w_138 => 
  callS Tryz.prog 35 #[t138, t140] (fun t155 w_139 => 
  callS Tryz.prog 36 #[t138, t140] (fun t158 w_140 => 
  callS Tryz.prog 37 #[t42, t149] (fun _ w_141 => 
  callS Tryz.prog 37 #[t42, t152] (fun _ w_142 => 
  callS Tryz.prog 37 #[t42, t155] (fun _ w_143 => 
  callS Tryz.prog 37 #[t42, t158] (fun _ w_144 => 
  callS Tryz.prog 38 #[t149, t142] (fun t173 w_145 => 
  pur Tryz.prog (Op.unary .not t173) fun t174 => 
  gd t174 false (fun k_36 w_146 => k_36 t152 w_146) (fun t176_1 w_147 => 
  gd t174 false (fun k_37 w_148 => k_37 t147 w_148) (fun t177_1 w_149 => 
  gd t174 false (fun k_38 w_150 => callS Tryz.prog 38 #[t176_1, t177_1] (fun t178 w_151 => k_38 t178 w_151) w_150) (fun t178_1 w_152 => 
  gd t174 false (fun k_39 w_153 => pur Tryz.prog (Op.unary .not t178_1) fun t179 => k_39 t179 w_153) (fun t179_1 w_154 => 
  pur Tryz.prog (pickS t174 (.bool true) t179_1) fun t180 => 
  gd t180 false (fun k_40 w_155 => k_40 t155 w_155) (fun t182_1 w_156 => 
  gd t180 false (fun k_41 w_157 => k_41 v_a w_157) (fun t183_1 w_158 => 
  gd t180 false (fun k_42 w_159 => k_42 v_b w_159) (fun t184_1 w_160 => 
  gd t180 false (fun k_43 w_161 => callS Tryz.prog 39 #[t183_1, t184_1] (fun t185 w_162 => k_43 t185 w_162) w_161) (fun t185_1 w_163 => 
  gd t180 false (fun k_44 w_164 => callS Tryz.prog 38 #[t182_1, t185_1] (fun t186 w_165 => k_44 t186 w_165) w_164) (fun t186_1 w_166 => 
  gd t180 false (fun k_45 w_167 => pur Tryz.prog (Op.unary .not t186_1) fun t187 => k_45 t187 w_167) (fun t187_1 w_168 => 
  pur Tryz.prog (pickS t180 (.bool true) t187_1) fun t188 => 
  gd t188 false (fun k_46 w_169 => k_46 t158 w_169) (fun t190_1 w_170 => 
  gd t188 false (fun k_47 w_171 => k_47 v_a w_171) (fun t191_1 w_172 => 
  gd t188 false (fun k_48 w_173 => k_48 v_b w_173) (fun t192_1 w_174 => 
  gd t188 false (fun k_49 w_175 => callS Tryz.prog 40 #[t191_1, t192_1] (fun t193 w_176 => k_49 t193 w_176) w_175) (fun t193_1 w_177 => 
  gd t188 false (fun k_50 w_178 => callS Tryz.prog 38 #[t190_1, t193_1] (fun t194 w_179 => k_50 t194 w_179) w_178) (fun t194_1 w_180 => 
  gd t188 false (fun k_51 w_181 => pur Tryz.prog (Op.unary .not t194_1) fun t195 => k_51 t195 w_181) (fun t195_1 w_182 => 
  pur Tryz.prog (pickS t188 (.bool true) t195_1) fun t196 => 
  gd t196 false (fun k_52 w_183 => k_52 t138 w_183) (fun t198_1 w_184 => 
  gd t196 false (fun k_53 w_185 => k_53 t140 w_185) (fun t199_1 w_186 => 
  gd t196 false (fun k_54 w_187 => callS Tryz.prog 41 #[t198_1, t199_1] (fun t200 w_188 => k_54 t200 w_188) w_187) (fun t200_1 w_189 => 
  gd t196 false (fun k_55 w_190 => k_55 v_b w_190) (fun t201_1 w_191 => 
  gd t196 false (fun k_56 w_192 => k_56 v_a w_192) (fun t202_1 w_193 => 
  gd t196 false (fun k_57 w_194 => callS Tryz.prog 39 #[t201_1, t202_1] (fun t203 w_195 => k_57 t203 w_195) w_194) (fun t203_1 w_196 => 
  gd t196 false (fun k_58 w_197 => pur Tryz.prog (Builtin.len_ #[70] 3 #[t203_1]) fun t204 => k_58 t204 w_197) (fun t204_1 w_198 => 
  gd t196 false (fun k_59 w_199 => pur Tryz.prog (binS .eql 3 false true t204_1 (.int .i64 0)) fun t205 => k_59 t205 w_199) (fun t205_1 w_200 => 
  gd t196 false (fun k_60 w_201 => pur Tryz.prog (binS .neq 4 false false t200_1 t205_1) fun t206 => k_60 t206 w_201) (fun t206_1 w_202 => 
  pur Tryz.prog (pickS t196 (.bool true) t206_1) fun t207 => 
  gd t207 false (fun k_61 w_203 => k_61 t138 w_203) (fun t209_1 w_204 => 
  gd t207 false (fun k_62 w_205 => k_62 v_a w_205) (fun t210_1 w_206 => 
  gd t207 false (fun k_63 w_207 => callS Tryz.prog 42 #[t209_1, t210_1] (fun t211 w_208 => k_63 t211 w_208) w_207) (fun t211_1 w_209 => 
  gd t207 false (fun k_64 w_210 => pur Tryz.prog (Op.unary .not t211_1) fun t212 => k_64 t212 w_210) (fun t212_1 w_211 => 
  pur Tryz.prog (pickS t207 (.bool true) t212_1) fun t213 => 
  gd t213 false (fun k_65 w_212 => k_65 t140 w_212) (fun t215_1 w_213 => 
  gd t213 false (fun k_66 w_214 => k_66 v_b w_214) (fun t216_1 w_215 => 
  gd t213 false (fun k_67 w_216 => callS Tryz.prog 42 #[t215_1, t216_1] (fun t217 w_217 => k_67 t217 w_217) w_216) (fun t217_1 w_218 => 
  gd t213 false (fun k_68 w_219 => pur Tryz.prog (Op.unary .not t217_1) fun t218 => k_68 t218 w_219) (fun t218_1 w_220 => 
  pur Tryz.prog (pickS t213 (.bool true) t218_1) fun t219 => 
  condS t219
   (Q (.bool false) w_220)
   (jn 1 (fun J_6 => 
   pur Tryz.prog (binS .gtr 3 false true v_most_1 (.int .i64 3000)) fun t221 => 
   condS t221
    (J_6 (.int .i64 3000) w_220)
    (J_6 v_most_1 w_220))
  (fun v_most_2 w_221 => ∀ _j : Fr, 
   callS Tryz.prog 43 #[v_most_2, t138] (fun t225 w_222 => 
   pur Tryz.prog (Instr.extract t225 0) fun t226 => 
   pur Tryz.prog (Instr.extract t225 1) fun t227 => 
   pur Tryz.prog (binS .geq 3 false true v_most_2 (.int .i64 0)) fun t230 => 
   gd t230 true (fun k_69 w_223 => k_69 v_most_2 w_223) (fun t232_1 w_224 => 
   gd t230 true (fun k_70 w_225 => k_70 t142 w_225) (fun t233_1 w_226 => 
   gd t230 true (fun k_71 w_227 => callS Tryz.prog 44 #[t232_1, t233_1] (fun t234 w_228 => k_71 t234 w_228) w_227) (fun t234_1 w_229 => 
   gd t230 true (fun k_72 w_230 => k_72 v_most_2 w_230) (fun t235_1 w_231 => 
   gd t230 true (fun k_73 w_232 => pur Tryz.prog (binS .leq 3 false false t234_1 t235_1) fun t236 => k_73 t236 w_232) (fun t236_1 w_233 => 
   pur Tryz.prog (pickS t230 t236_1 (.bool false)) fun t237 => 
   pur Tryz.prog (binS .neq 4 false false t227 t237) fun t238 => 
   condS t238
    (Q (.bool false) w_233)
    (P4_2 J_5 t142 t226 t227 t42 v_k_1 v_most_2 w_233 Q)) w_231) w_229) w_226) w_224) w_222) w_221))) w_218) w_215) w_213) w_211) w_209) w_206) w_204) w_202) w_200) w_198) w_196) w_193) w_191) w_189) w_186) w_184) w_182) w_180) w_177) w_174) w_172) w_170) w_168) w_166) w_163) w_160) w_158) w_156) w_154) w_152) w_149) w_147) w_145) w_144) w_143) w_142) w_141) w_140) w_139) w_138) w_137) w_136) w_135) w_134) w_133) w_132) w_131) w_130)
   (callS Tryz.prog 23 #[] (fun t283 w_251 => 
 gd t283 true (fun k_81 w_252 => k_81 t42 w_252) (fun t285_1 w_253 => 
 gd t283 true (fun k_82 w_254 => callS Tryz.prog 22 #[t285_1] (fun t286 w_255 => k_82 t286 w_255) w_254) (fun t286_1 w_256 => 
 pur Tryz.prog (pickS t283 t286_1 (.bool false)) fun t287 => 
 Q t287 w_256) w_253) w_251) w_130)) [v_most, (.int .i64 0)] w_9)) [(.int .i64 0)] w_8) w_6)) w_4) w_2) w
theorem cut4 (v_a v_b v_block v_most : Value) (Q : Value → World → Prop) (w : World) : S4 v_a v_b v_block v_most Q w = P4_0 v_a v_b v_block v_most Q w := rfl
-- P4_1 J t11 v_b v_i w_61 Q
-- P4_2 J_5 t142 t226 t227 t42 v_k_1 v_most_2 w_233 Q
section
variable {w w' : World} {Q : Value → World → Prop}
/-- The state between two rounds. -/
structure PT (w0 : World) (B : Nat) (w : World) (b : Nat) (f : Nat → Value) (pS qS : List (Value × List (Int × Int))) (pI qI : List (Value × List Int)) : Prop where
  bk : BkC Bk.tBk w b f
  Bb : B ≤ b
  kS : BkSpans.KsX w B f pS qS
  kI : BkInts.KsX w B f pI qI
  nf : ∀ o, o < 30 → o ∉ [2, 3, 6, 7] → f o = .slice none 0 0
  kp : Keep (fun g => B ≤ g) w0 w
  Bw : B ≤ siz w
variable {w0 : World} {B b : Nat} {f f' : Nat → Value} {pS qS pS' qS' : List (Value × List (Int × Int))} {pI qI pI' qI' : List (Value × List Int)}
theorem PT.k0 (h : PT w0 B w b f pS qS pI qI) (k : K0 w w') : PT w0 B w' b f pS qS pI qI where
  bk := h.bk.keep k id
  Bb := h.Bb
  kS := h.kS.keep0 k
  kI := h.kI.keep0 k
  nf := h.nf
  kp := h.kp.trans k.none
  Bw := Nat.le_trans h.Bw k.size
theorem PT.addS (h : PT w0 B w b f pS qS pI qI) (hb : BkC Bk.tBk w' b f') (hne : ∀ o, o ≠ 6 → o ≠ 7 → f' o = f o) (hks : BkSpans.KsX w' B f' pS' qS') (k : KO B (tys [Bk.tBk, 70]) w w') : PT w0 B w' b f' pS' qS' pI qI where
  bk := hb
  Bb := h.Bb
  kS := hks
  kI := by
    have := h.kI.ko k (fun _ => rfl) (fun _ => rfl)
    unfold BkInts.KsX
    rw [hne 2 (by decide) (by decide), hne 3 (by decide) (by decide)]; exact this
  nf := fun o ho hn => by
    rw [hne o (fun e => hn (by simp [e])) (fun e => hn (by simp [e]))]
    exact h.nf o ho hn
  kp := h.kp.trans (k.below (Nat.le_refl _))
  Bw := Nat.le_trans h.Bw k.size
theorem PT.addI (h : PT w0 B w b f pS qS pI qI) (hb : BkC Bk.tBk w' b f') (hne : ∀ o, o ≠ 2 → o ≠ 3 → f' o = f o) (hks : BkInts.KsX w' B f' pI' qI') (k : KO B (tys [Bk.tBk, 64]) w w') : PT w0 B w' b f' pS qS pI' qI' where
  bk := hb
  Bb := h.Bb
  kI := hks
  kS := by
    have := h.kS.ko k (fun _ => rfl) (fun _ => rfl)
    unfold BkSpans.KsX
    rw [hne 6 (by decide) (by decide), hne 7 (by decide) (by decide)]; exact this
  nf := fun o ho hn => by
    rw [hne o (fun e => hn (by simp [e])) (fun e => hn (by simp [e]))]
    exact h.nf o ho hn
  kp := h.kp.trans (k.below (Nat.le_refl _))
  Bw := Nat.le_trans h.Bw k.size
/-- One more list of ranges. -/
theorem addS_c {l : Value} {L : List (Int × Int)} {A C D : Nat} {K : Value → World → Prop} (h : PT w0 B w b f pS qS pI qI) (hB : B ≤ A) (hl : Own w A 72 2 l L.length (flat encS L)) (hL : L.length ≤ 100000) (hC : ∀ g, l.ownBlock = some g → g < C) (hCD : C ≤ D) (hD : D ≤ siz w)
    (hk : ∀ g, kft (f 6) (f 7) pS qS g → g < A ∨ D ≤ g) 
    (hq : ∀ w' f' pS' qS', PT w0 B w' b f' pS' qS' pI qI → (∀ o, o ≠ 6 → o ≠ 7 → f' o = f o) → (A ≤ C → ∀ g, kft (f' 6) (f' 7) pS' qS' g → g < C ∨ D ≤ g) → KO B (tys [Bk.tBk, 70]) w w' → K (.tuple #[]) w') :
    callS Tryz.prog 37 #[.pointer (some ⟨b, 0, none⟩), l] K w := by
  obtain ⟨p1, c1, e1⟩ := hl.form
  refine BkSpans.add_c h.bk h.kS h.Bw (xs := L) (hl.le hB) hL (by rw [e1]; exact one_slice) (fun g hg e => by
    have h1 := (hl.lt hg).1
    have h2 := hC g hg
    rcases hk g e with h3 | h3 <;> omega) fun w1 f1 p1 q1 hb1 hne1 hk1 hs1 k1 => ?_
  have ko := BkSpans.addKO h.bk h.Bb h.kS k1
  refine hq _ _ _ _ (h.addS hb1 hne1 hk1 ko) hne1 (fun hAC g hg => ?_) ko
  rcases hs1 g hg with h3 | h3 | h3
  · rcases hk g h3 with h4 | h4 <;> omega
  · exact .inl (hC g h3)
  · omega
theorem sp_at {l : List Sp} {i : Nat} {pa : Option Addr} {ca : Nat} (h : Rd 2 w (.slice pa l.length ca) l.length (flat encS l)) (hi : i < l.length) : ∃ g o, pa = some ⟨g, o, none⟩ ∧
    Sh.cel w g (o + i * 2) = some (.int .i64 l[i].1) ∧ Sh.cel w g (o + i * 2 + 1) = some (.int .i64 l[i].2) := by
  obtain ⟨g, o, c, e, q0, q1⟩ := span_at h hi
  injection e with e1 _ e2
  exact ⟨g, o, e1, q0, q1⟩
theorem blk_get {N : List Sp} {i j : Nat} (hi : i < N.length) (hj : j < (N[i].2 - N[i].1).toNat) : (blkL N)[(blkL (N.take i)).length + j]? = some (N[i].1 + (j : Int)) := by
  have h3 : blkL N = blkL (N.take (i + 1)) ++ blkL (N.drop (i + 1)) := by unfold blkL; rw [← List.flatMap_append, List.take_append_drop]
  rw [h3, blkL_take hi, List.append_assoc, List.getElem?_append_right (by omega), Nat.add_sub_cancel_left, List.getElem?_append_left (by rw [blkS_len]; omega)]
  unfold blkS
  rw [List.getElem?_map, List.getElem?_range hj]; rfl
theorem blk_le {N : List Sp} {i : Nat} (hi : i < N.length) : (blkL (N.take i)).length + (N[i].2 - N[i].1).toNat ≤ (blkL N).length := by
  have h3 : blkL N = blkL (N.take (i + 1)) ++ blkL (N.drop (i + 1)) := by unfold blkL; rw [← List.flatMap_append, List.take_append_drop]
  rw [h3, blkL_take hi, List.length_append, List.length_append, blkS_len]; omega
theorem tail_c {J : Cur 2} {N : List Sp} {bs : List Int} {okb : Bool} {vN vl : Value} {m : Int} {i A C : Nat} {u : World} (h : PT w0 B u b f pS qS pI qI) (hn : Nrm N) (hend : ∀ s ∈ N, s.2 ≤ 9223372036854775807) (hNl : N.length ≤ 1000)
    (oN : Own u C 72 2 vN N.length (flat encS N)) (hl : Own u A 3 1 vl bs.length (flat encN bs)) (hA : B ≤ A) (hk : ∀ g, kft (f 2) (f 3) pI qI g → g < A) (h1 : okb = true → bs = blkL N) (h0 : okb = false → bs = []) (hlen : bs.length ≤ 3000)
    (hJ : ∀ w' f' pI' qI', PT w0 B w' b f' pS qS pI' qI' → J (.int .i64 m) (.int .i64 (IntKind.i64.wrap ((i : Int) + 1))) w') :
    P4_2 J vN vl (.bool okb) (.pointer (some ⟨b, 0, none⟩)) (.int .i64 (i : Int)) (.int .i64 m) u Q := by
  unfold P4_2
  obtain ⟨pl, cl, rfl⟩ := hl.form
  obtain ⟨pN, cN, rfl⟩ := oN.form
  refine BkInts.add_c h.bk h.kI h.Bw (xs := bs) (hl.le hA) (by omega) one_slice (fun g hg e => by
    have := (hl.lt hg).1
    have := hk g e
    omega) fun u1 f1 p1 q1 hb1 hne1 hk1 hs1 k1 => ?_
  have ko := BkInts.addKO h.bk h.Bb h.kI k1
  have h1' := h.addI hb1 hne1 hk1 ko
  have oN1 := ko.own oN fun _ => rfl
  have ol1 := ko.own hl fun _ => rfl
  cases okb
  · have e := h0 rfl
    subst e
    refine lpc2 0 (by omega) (fun _ y w' => y = .int .i64 0 ∧ w' = u1) ⟨rfl, rfl⟩ (fun i y w' hi => by omega) (fun y w' ⟨hy, hw⟩ J3 => ?_)
    subst hy hw
    intro _j
    by_cases hp : (0 : Int) < (N.length : Int)
    · simp only [stp, Nat.reduceAdd, Int.reduceLT, Int.reduceLE, Int.reduceEq, Int.reduceNe, ne_eq, bne_self_eq_false, beq_self_eq_true, stm, hp, List.length_nil, Int.natCast_zero, ne_eq, not_true_eq_false, decide_false, bne_self_eq_false]
      exact hJ _ _ _ _ h1'
    · simp only [stp, Nat.reduceAdd, Int.reduceLT, Int.reduceLE, Int.reduceEq, Int.reduceNe, ne_eq, bne_self_eq_false, beq_self_eq_true, stm, hp, List.length_nil, Int.natCast_zero, ne_eq, not_true_eq_false, decide_false, bne_self_eq_false]
      exact hJ _ _ _ _ h1'
  · have e := h1 rfl
    subst e
    refine lpc2 N.length (by omega) (fun i y w' => K0 u1 w' ∧ y = .int .i64 (((blkL (N.take i)).length : Nat) : Int)) ⟨K0.refl _, by simp [blkL]⟩ (fun i y u2 hi ⟨k2, hy⟩ J3 hJ3 => ?_) (fun y u2 ⟨k2, hy⟩ J3 => ?_)
    · intro _j
      subst hy
      have hi' : ((i : Int) < (N.length : Int)) := by omega
      have hok := hn.1 _ (List.getElem_mem hi)
      have hen := hend _ (List.getElem_mem hi)
      have ho1 := hok.1
      have ho2 := hok.2
      have hbl := blk_le hi
      obtain ⟨gn, on, rfl, q0, q1⟩ := sp_at (oN1.keep k2 fun _ _ => id).rd hi
      simp only [stp, Nat.reduceAdd, Int.reduceLT, Int.reduceLE, Int.reduceEq, Int.reduceNe, ne_eq, bne_self_eq_false, beq_self_eq_true, stm, hi', ix_70 hi, q0, q1, cel_drew, Option.isSome_some, Option.getD_some]
      refine lp2 (fun mm x y w' => K0 u1 w' ∧ ∃ j : Nat, x = .int .i64 (((blkL (N.take i)).length + j : Nat) : Int) ∧ y = .int .i64 (N[i].1 + (j : Int)) ∧ j ≤ (N[i].2 - N[i].1).toNat ∧ mm = (N[i].2 - N[i].1).toNat - j) (N[i].2 - N[i].1).toNat
        ⟨k2, 0, rfl, by simp, Nat.zero_le _, rfl⟩ ?_
      rintro mm x y u3 ⟨k3, j, rfl, rfl, hj, rfl⟩ J4 hJ4 _j
      obtain ⟨gn', on', e, q0, q1⟩ := sp_at (oN1.keep k3 fun _ _ => id).rd hi
      injection e with e
      injection e with e1 e2
      subst e1 e2
      by_cases hjt : j < (N[i].2 - N[i].1).toNat
      · have hjt' : N[i].1 + (j : Int) < N[i].2 := by omega
        have hge : ¬ (((blkL N).length : Int) ≤ (((blkL (N.take i)).length + j : Nat) : Int)) := by omega
        have hix : (blkL (N.take i)).length + j < (blkL N).length := by omega
        obtain ⟨gl, cl', e, _, _, _, _, _, hcel⟩ := (ol1.keep k3 fun _ _ => id).at (by omega)
        injection e with e1 _ e2
        subst e1 e2
        have hv : Sh.cel u3 gl ((blkL (N.take i)).length + j) = some (.int .i64 (N[i].1 + (j : Int))) := by
          have := flat_get (enc := encN) (k := 1) encN_len (blk_get hi hjt) (j := 0) (by omega)
          rw [Nat.mul_one, Nat.add_zero] at this
          rw [hcel _ (by omega), this]; rfl
        have hw1 : IntKind.i64.wrap ((((blkL (N.take i)).length + j : Nat) : Int) + 1) = (((blkL (N.take i)).length + (j + 1) : Nat) : Int) := by rw [wrap_succ (by omega)]; rfl
        have hw2 : IntKind.i64.wrap (N[i].1 + (j : Int) + 1) = N[i].1 + ((j + 1 : Nat) : Int) := by rw [wrap_id (by omega) (by omega)]; omega
        simp only [stp, Nat.reduceAdd, Int.reduceLT, Int.reduceLE, Int.reduceEq, Int.reduceNe, ne_eq, bne_self_eq_false, beq_self_eq_true, stm, ix_70 hi, q1, hjt', hge, cel_drew, Option.isSome_some, Option.getD_some]
        rw [ix_64 hix]
        simp only [stp, Nat.reduceAdd, Int.reduceLT, Int.reduceLE, Int.reduceEq, Int.reduceNe, ne_eq, bne_self_eq_false, beq_self_eq_true, stm, Nat.zero_add, hv, hw1, hw2, ne_eq, not_true_eq_false, decide_false, bne_self_eq_false, Option.isSome_some, Option.getD_some]
        exact hJ4 ((N[i].2 - N[i].1).toNat - (j + 1)) _ _ _ (by omega) ⟨k3, j + 1, rfl, rfl, by omega, rfl⟩
      · have hjt' : ¬ N[i].1 + (j : Int) < N[i].2 := by omega
        simp only [stp, Nat.reduceAdd, Int.reduceLT, Int.reduceLE, Int.reduceEq, Int.reduceNe, ne_eq, bne_self_eq_false, beq_self_eq_true, stm, ix_70 hi, q1, hjt', cel_drew, Option.isSome_some, Option.getD_some]
        refine hJ3 _ _ ⟨k3, ?_⟩
        rw [blkL_take hi, List.length_append, blkS_len, show j = (N[i].2 - N[i].1).toNat by omega]
    · intro _j
      subst hy
      have hi' : ¬ ((N.length : Int) < (N.length : Int)) := by omega
      rw [List.take_length]
      simp only [stp, Nat.reduceAdd, Int.reduceLT, Int.reduceLE, Int.reduceEq, Int.reduceNe, ne_eq, bne_self_eq_false, beq_self_eq_true, stm, hi', ne_eq, not_true_eq_false, decide_false, bne_self_eq_false]
      exact hJ _ _ _ _ (h1'.k0 k2)
theorem appS0 {v : Value} {l : List Sp} {K : Value → World → Prop} (h : Rd 2 w v l.length (flat encS l)) (hl : l.length ≤ 1000) (hK : ∀ w' v', Own w' (siz w) 72 2 v' l.length (flat encS l) → K0 w w' → K v' w') :
    act Tryz.prog (Builtin.append_ #[70, 70] 70 #[.slice none 0 0, v]) K w := by
  have hn := Own.nil w (siz w) 72 2
  by_cases h0 : l.length = 0
  · obtain ⟨pa, ca, rfl⟩ := h.form
    have e : l = [] := List.length_eq_zero_iff.1 h0
    subst e
    rw [show ([] : List Sp).length = 0 from rfl, ap0_70 hn]
    exact hK _ _ hn (K0.refl _)
  · obtain ⟨g, o, c, rfl, _, hc⟩ := h.at (by omega)
    refine ap_70 hn (b := g) (o := o) (m := l.length) (news := flat encS l) h.len hc flatS_one (by omega) (Nat.le_refl _) fun v' w' ho hg hr => hK _ _ (by rw [Nat.zero_add] at ho; exact ho) ?_
    exact (grown_keep hg).mono fun q _ e => by cases e
theorem appS1 {vo v : Value} {L l : List Sp} {A : Nat} {K : Value → World → Prop} (ho : Own w A 72 2 vo L.length (flat encS L)) (hA : A ≤ siz w) (h : Rd 2 w v l.length (flat encS l)) (hl : L.length + l.length ≤ 1000)
    (hK : ∀ w' v', Own w' A 72 2 v' (L ++ l).length (flat encS (L ++ l)) → Keep (fun g => vo.ownBlock = some g) w w' → K v' w') :
    act Tryz.prog (Builtin.append_ #[70, 70] 70 #[vo, v]) K w := by
  by_cases h0 : l.length = 0
  · obtain ⟨pa, ca, rfl⟩ := h.form
    have e : l = [] := List.length_eq_zero_iff.1 h0
    subst e
    rw [show ([] : List Sp).length = 0 from rfl, ap0_70 ho]
    exact hK _ _ (by rw [List.append_nil]; exact ho) (Keep.refl _ _)
  · obtain ⟨g, o, c, rfl, _, hc⟩ := h.at (by omega)
    refine ap_70 ho (b := g) (o := o) (m := l.length) (news := flat encS l) h.len hc flatS_one (by omega) hA fun v' w' ho hg hr => hK _ _ (by rw [List.length_append, flat_append]; exact ho) (grown_keep hg)
theorem tells_in {J : Cur 1} {i : Nat} {gs : Nat} {x y : Int} {pb : Option Addr} {cb : Nat} {b : List (Int × Int)} {u : World} (cs : Cs u gs x y) (hb : Rd 2 u (.slice pb b.length cb) b.length (flat encS b)) (hl : b.length ≤ 40)
    (hJ : ∀ w', K0 u w' → J (.int .i64 (IntKind.i64.wrap ((i : Int) + 1))) w') : P4_1 J (.pointer (some ⟨gs, 0, none⟩)) (.slice pb b.length cb) (.int .i64 (i : Int)) u Q := by
  unfold P4_1
  refine lpc1 b.length (by omega) (fun k u' => K0 u u') (K0.refl _) (fun k u3 hk k3 J2 hJ2 => ?_) (fun u3 k3 J2 => ?_)
  · intro _j
    have hk' : ((k : Int) < (b.length : Int)) := by omega
    obtain ⟨gb, ob, rfl, p0, p1⟩ := sp_at (hb.keep0 k3) hk
    have cs3 := cs.keep k3
    have d0 := cs3.1
    have d1 := cs3.2
    simp only [stp, Nat.reduceAdd, Int.reduceLT, Int.reduceLE, Int.reduceEq, Int.reduceNe, ne_eq, bne_self_eq_false, beq_self_eq_true, hk']
    refine jn2 (fun x' y' w' => K0 u3 w' ∧ y' = .bool (decide (ok (x, y) ∧ ok (b[k].1, b[k].2) ∧ ok (max x b[k].1, min y b[k].2))) ∧ ∃ g', x' = .pointer (some ⟨g', 0, none⟩) ∧ Cs w' g' (if ok (x, y) ∧ ok (b[k].1, b[k].2) ∧ ok (max x b[k].1, min y b[k].2) then (max x b[k].1, min y b[k].2) else (0, 0)).1 (if ok (x, y) ∧ ok (b[k].1, b[k].2) ∧ ok (max x b[k].1, min y b[k].2) then (max x b[k].1, min y b[k].2) else (0, 0)).2) (fun J3 hJ3 => ?_) ?_
    · have kd := (K0.refl u3).drew
      have k3 := (K0.refl u3.drew).alloc (.cells #[.int .i64 0, .int .i64 0] 72)
      have q0 : Sh.cel (u3.drew.alloc (.cells #[.int .i64 0, .int .i64 0] 72)) (siz u3) 0 = some (.int .i64 0) := cel_alloc_new (w := u3.drew)
      have q1 : Sh.cel (u3.drew.alloc (.cells #[.int .i64 0, .int .i64 0] 72)) (siz u3) 1 = some (.int .i64 0) := cel_alloc_new (w := u3.drew)
      have qf : fre (u3.drew.alloc (.cells #[.int .i64 0, .int .i64 0] 72)) (siz u3) = true := fre_alloc_new (w := u3.drew)
      have a0 : Sh.cel (u3.drew.alloc (.cells #[.int .i64 0, .int .i64 0] 72)) gs 0 = some (.int .i64 x) := (kd.trans k3).cel d0 id
      have a1 : Sh.cel (u3.drew.alloc (.cells #[.int .i64 0, .int .i64 0] 72)) gs 1 = some (.int .i64 y) := (kd.trans k3).cel d1 id
      have b0 : Sh.cel (u3.drew.alloc (.cells #[.int .i64 0, .int .i64 0] 72)) gb (ob + k * 2) = some (.int .i64 b[k].1) := (kd.trans k3).cel p0 id
      have b1 : Sh.cel (u3.drew.alloc (.cells #[.int .i64 0, .int .i64 0] 72)) gb (ob + k * 2 + 1) = some (.int .i64 b[k].2) := (kd.trans k3).cel p1 id
      simp only [stp, Nat.reduceAdd, Int.reduceLT, Int.reduceLE, Int.reduceEq, Int.reduceNe, ne_eq, bne_self_eq_false, beq_self_eq_true, stm, ix_70 hk, cel_drew, p0, p1, d0, d1, a0, a1, b0, b1, Nat.zero_add, Option.isSome_some, Option.getD_some]
      repeat' with_reducible refine And.intro ?_ ?_
      all_goals refine meet_c fun w4 g4 => ?_
      all_goals by_cases hm : ok (x, y) ∧ ok (b[k].1, b[k].2) ∧ ok (max x b[k].1, min y b[k].2)
      all_goals have s4 := g4.1.size
      all_goals first
        | (have k23 := kd.trans g4.1
           rw [if_pos hm]
           simp only [stp, Nat.reduceAdd, Int.reduceLT, Int.reduceLE, Int.reduceEq, Int.reduceNe, ne_eq, bne_self_eq_false, beq_self_eq_true, stm]
           refine hJ3 _ _ _ ⟨k23.alloc _, by rw [decide_eq_true hm], _, rfl, ?_⟩
           rw [if_pos hm]; exact Cs.new)
        | (have k23 := kd.trans g4.1
           rw [if_neg hm]
           simp only [stp, Nat.reduceAdd, Int.reduceLT, Int.reduceLE, Int.reduceEq, Int.reduceNe, ne_eq, bne_self_eq_false, beq_self_eq_true, stm]
           refine hJ3 _ _ _ ⟨k23.alloc _, by rw [decide_eq_false hm], _, rfl, ?_⟩
           rw [if_neg hm]; exact Cs.new)
        | (have k34 := k3.trans g4.1
           have r0 := g4.1.cel q0 id
           have r1 := g4.1.cel q1 id
           have rf := g4.1.fre qf id
           have i0 : (Sh.cel w4 (siz u3) 0).isSome = true := by rw [r0]; rfl
           have i1 : (Sh.cel w4 (siz u3) 1).isSome = true := by rw [r1]; rfl
           have fin : ∀ u t : Int, (if ok (x, y) ∧ ok (b[k].1, b[k].2) ∧ ok (max x b[k].1, min y b[k].2) then (max x b[k].1, min y b[k].2) else (0, 0)) = (u, t) → J3 (.pointer (some ⟨siz u3, 0, none⟩)) (.bool (decide (ok (x, y) ∧ ok (b[k].1, b[k].2) ∧ ok (max x b[k].1, min y b[k].2)))) (stoL w4 (siz u3) 0 [.int .i64 u, .int .i64 t]) := fun u t hX => by
             have kk : K0 u3.drew (stoL w4 (siz u3) 0 [.int .i64 u, .int .i64 t]) := Keep.stoL _ 0 k34 (.inr (Nat.le_refl _))
             refine hJ3 _ _ _ ⟨kd.trans kk, rfl, _, rfl, ?_⟩
             rw [hX]
             constructor
             · show Sh.cel (sto (sto w4 (siz u3) 0 (.int .i64 u)) (siz u3) (0 + 1) (.int .i64 t)) (siz u3) 0 = _
               rw [cel_sto_ne (by omega), cel_sto_same i0]
             · show Sh.cel (sto (sto w4 (siz u3) 0 (.int .i64 u)) (siz u3) (0 + 1) (.int .i64 t)) (siz u3) (0 + 1) = _
               rw [cel_sto_same (by rw [cel_sto_ne (by omega)]; exact i1)]
           first
             | (rw [if_pos hm]
                have := fin _ _ (if_pos hm)
                rw [decide_eq_true hm] at this
                simp only [stp, Nat.reduceAdd, Int.reduceLT, Int.reduceLE, Int.reduceEq, Int.reduceNe, ne_eq, bne_self_eq_false, beq_self_eq_true, stm, i0, i1, rf]
                exact this)
             | (rw [if_neg hm]
                have := fin _ _ (if_neg hm)
                rw [decide_eq_false hm] at this
                simp only [stp, Nat.reduceAdd, Int.reduceLT, Int.reduceLE, Int.reduceEq, Int.reduceNe, ne_eq, bne_self_eq_false, beq_self_eq_true, stm, i0, i1, rf]
                exact this))
    · rintro xv yv u4 ⟨k4, rfl, g1, rfl, c4⟩ _j
      have q0 := k4.cel p0 id
      have q1 := k4.cel p1 id
      have cs4 := cs3.keep k4
      have k34 := k3.trans k4
      refine jn2 (fun x' y' w' => K0 u4 w' ∧ y' = .bool (decide (ok (x, y) ∧ ok (b[k].1, b[k].2) ∧ ok (max x b[k].1, min y b[k].2))) ∧ ∃ g', x' = .pointer (some ⟨g', 0, none⟩) ∧ Cs w' g' (if ok (x, y) ∧ ok (b[k].1, b[k].2) ∧ ok (max x b[k].1, min y b[k].2) then (max x b[k].1, min y b[k].2) else (0, 0)).1 (if ok (x, y) ∧ ok (b[k].1, b[k].2) ∧ ok (max x b[k].1, min y b[k].2) then (max x b[k].1, min y b[k].2) else (0, 0)).2) (fun J3 hJ3 => ?_) ?_
      · have p0 := q0
        have p1 := q1
        have d0 := cs4.1
        have d1 := cs4.2
        have kd := (K0.refl u4).drew
        have k3 := (K0.refl u4.drew).alloc (.cells #[.int .i64 0, .int .i64 0] 72)
        have q0 : Sh.cel (u4.drew.alloc (.cells #[.int .i64 0, .int .i64 0] 72)) (siz u4) 0 = some (.int .i64 0) := cel_alloc_new (w := u4.drew)
        have q1 : Sh.cel (u4.drew.alloc (.cells #[.int .i64 0, .int .i64 0] 72)) (siz u4) 1 = some (.int .i64 0) := cel_alloc_new (w := u4.drew)
        have qf : fre (u4.drew.alloc (.cells #[.int .i64 0, .int .i64 0] 72)) (siz u4) = true := fre_alloc_new (w := u4.drew)
        have a0 : Sh.cel (u4.drew.alloc (.cells #[.int .i64 0, .int .i64 0] 72)) gs 0 = some (.int .i64 x) := (kd.trans k3).cel d0 id
        have a1 : Sh.cel (u4.drew.alloc (.cells #[.int .i64 0, .int .i64 0] 72)) gs 1 = some (.int .i64 y) := (kd.trans k3).cel d1 id
        have b0 : Sh.cel (u4.drew.alloc (.cells #[.int .i64 0, .int .i64 0] 72)) gb (ob + k * 2) = some (.int .i64 b[k].1) := (kd.trans k3).cel p0 id
        have b1 : Sh.cel (u4.drew.alloc (.cells #[.int .i64 0, .int .i64 0] 72)) gb (ob + k * 2 + 1) = some (.int .i64 b[k].2) := (kd.trans k3).cel p1 id
        simp only [stp, Nat.reduceAdd, Int.reduceLT, Int.reduceLE, Int.reduceEq, Int.reduceNe, ne_eq, bne_self_eq_false, beq_self_eq_true, stm, ix_70 hk, cel_drew, p0, p1, d0, d1, a0, a1, b0, b1, Nat.zero_add, Option.isSome_some, Option.getD_some]
        repeat' with_reducible refine And.intro ?_ ?_
        all_goals refine rmeet_c fun w4 g4 => ?_
        all_goals by_cases hm : ok (x, y) ∧ ok (b[k].1, b[k].2) ∧ ok (max x b[k].1, min y b[k].2)
        all_goals have s4 := g4.1.size
        all_goals first
          | (have k23 := kd.trans g4.1
             rw [if_pos hm]
             simp only [stp, Nat.reduceAdd, Int.reduceLT, Int.reduceLE, Int.reduceEq, Int.reduceNe, ne_eq, bne_self_eq_false, beq_self_eq_true, stm]
             refine hJ3 _ _ _ ⟨k23.alloc _, by rw [decide_eq_true hm], _, rfl, ?_⟩
             rw [if_pos hm]; exact Cs.new)
          | (have k23 := kd.trans g4.1
             rw [if_neg hm]
             simp only [stp, Nat.reduceAdd, Int.reduceLT, Int.reduceLE, Int.reduceEq, Int.reduceNe, ne_eq, bne_self_eq_false, beq_self_eq_true, stm]
             refine hJ3 _ _ _ ⟨k23.alloc _, by rw [decide_eq_false hm], _, rfl, ?_⟩
             rw [if_neg hm]; exact Cs.new)
          | (have k34 := k3.trans g4.1
             have r0 := g4.1.cel q0 id
             have r1 := g4.1.cel q1 id
             have rf := g4.1.fre qf id
             have i0 : (Sh.cel w4 (siz u4) 0).isSome = true := by rw [r0]; rfl
             have i1 : (Sh.cel w4 (siz u4) 1).isSome = true := by rw [r1]; rfl
             have fin : ∀ u t : Int, (if ok (x, y) ∧ ok (b[k].1, b[k].2) ∧ ok (max x b[k].1, min y b[k].2) then (max x b[k].1, min y b[k].2) else (0, 0)) = (u, t) → J3 (.pointer (some ⟨siz u4, 0, none⟩)) (.bool (decide (ok (x, y) ∧ ok (b[k].1, b[k].2) ∧ ok (max x b[k].1, min y b[k].2)))) (stoL w4 (siz u4) 0 [.int .i64 u, .int .i64 t]) := fun u t hX => by
               have kk : K0 u4.drew (stoL w4 (siz u4) 0 [.int .i64 u, .int .i64 t]) := Keep.stoL _ 0 k34 (.inr (Nat.le_refl _))
               refine hJ3 _ _ _ ⟨kd.trans kk, rfl, _, rfl, ?_⟩
               rw [hX]
               constructor
               · show Sh.cel (sto (sto w4 (siz u4) 0 (.int .i64 u)) (siz u4) (0 + 1) (.int .i64 t)) (siz u4) 0 = _
                 rw [cel_sto_ne (by omega), cel_sto_same i0]
               · show Sh.cel (sto (sto w4 (siz u4) 0 (.int .i64 u)) (siz u4) (0 + 1) (.int .i64 t)) (siz u4) (0 + 1) = _
                 rw [cel_sto_same (by rw [cel_sto_ne (by omega)]; exact i1)]
             first
               | (rw [if_pos hm]
                  have := fin _ _ (if_pos hm)
                  rw [decide_eq_true hm] at this
                  simp only [stp, Nat.reduceAdd, Int.reduceLT, Int.reduceLE, Int.reduceEq, Int.reduceNe, ne_eq, bne_self_eq_false, beq_self_eq_true, stm, i0, i1, rf]
                  exact this)
               | (rw [if_neg hm]
                  have := fin _ _ (if_neg hm)
                  rw [decide_eq_false hm] at this
                  simp only [stp, Nat.reduceAdd, Int.reduceLT, Int.reduceLE, Int.reduceEq, Int.reduceNe, ne_eq, bne_self_eq_false, beq_self_eq_true, stm, i0, i1, rf]
                  exact this))
      · rintro xv yv u5 ⟨k5, rfl, g2, rfl, c5⟩ _j
        have c45 := c4.keep k5
        have kd := (K0.refl u5).drew
        have r0 := (k4.trans k5).cel p0 id
        have r1 := (k4.trans k5).cel p1 id
        have cs5 := cs4.keep k5
        generalize (if ok (x, y) ∧ ok (b[k].1, b[k].2) ∧ ok (max x b[k].1, min y b[k].2) then (max x b[k].1, min y b[k].2) else (0, 0)) = X at c45 c5
        simp only [stp, Nat.reduceAdd, Int.reduceLT, Int.reduceLE, Int.reduceEq, Int.reduceNe, ne_eq, bne_self_eq_false, beq_self_eq_true, stm, cel_drew, c45.1, c45.2, c5.1, c5.2, cs5.1, cs5.2, ix_70 hk, r0, r1, decide_true, Bool.and_self, Bool.not_true, bne_self_eq_false, Option.isSome_some, Option.getD_some]
        refine meets_c fun u6 g6 => ?_
        simp only [stp, Nat.reduceAdd, Int.reduceLT, Int.reduceLE, Int.reduceEq, Int.reduceNe, ne_eq, bne_self_eq_false, beq_self_eq_true, stm, bne_self_eq_false]
        exact hJ2 _ (((k34.trans k5).trans kd).trans g6.1)
  · intro _j
    have hk' : ¬ ((b.length : Int) < (b.length : Int)) := by omega
    simp only [stp, Nat.reduceAdd, Int.reduceLT, Int.reduceLE, Int.reduceEq, Int.reduceNe, ne_eq, bne_self_eq_false, beq_self_eq_true, hk']
    exact hJ _ k3
theorem tells_law {va vb : Value} {a b : List (Int × Int)} {z most : Int} (ha : Rd 2 w va a.length (flat encS a)) (_ : a.length ≤ maxLen) (hga : ∀ s ∈ a, rngS s) (hb : Rd 2 w vb b.length (flat encS b)) (_ : b.length ≤ maxLen) (hgb : ∀ s ∈ b, rngS s)
    (_ : (Lit.int .i64 z).wf = true) (hwf : (Lit.int .i64 most).wf = true) (hq : ∀ w', Keep (fun b => siz w ≤ b) w w' → Q (.bool true) w') : callS Tryz.prog 4 #[va, vb, .int .i64 z, .int .i64 most] Q w := by
  refine ref4 ?_
  rw [cut4]
  unfold P4_0
  obtain ⟨pa, ca, rfl⟩ := ha.form
  obtain ⟨pb, cb, rfl⟩ := hb.form
  by_cases hb1 : (40 : Int) < (a.length : Int)
  · simp only [stp, Nat.reduceAdd, Int.reduceLT, Int.reduceLE, Int.reduceEq, Int.reduceNe, ne_eq, bne_self_eq_false, beq_self_eq_true, hb1]; exact alive_c fun w' k => hq w' k.none
  by_cases hb2 : (40 : Int) < (b.length : Int)
  · simp only [stp, Nat.reduceAdd, Int.reduceLT, Int.reduceLE, Int.reduceEq, Int.reduceNe, ne_eq, bne_self_eq_false, beq_self_eq_true, hb1, hb2]; exact alive_c fun w' k => hq w' k.none
  simp only [stp, Nat.reduceAdd, Int.reduceLT, Int.reduceLE, Int.reduceEq, Int.reduceNe, ne_eq, bne_self_eq_false, beq_self_eq_true, hb1, hb2]
  rw [show w.alloc (.cells #[Value.slice none 0 0, Value.slice none 0 0, Value.slice none 0 0, Value.slice none 0 0, Value.slice none 0 0, Value.slice none 0 0, Value.slice none 0 0, Value.slice none 0 0, Value.slice none 0 0, Value.slice none 0 0, Value.slice none 0 0, Value.slice none 0 0, Value.slice none 0 0, Value.slice none 0 0, Value.slice none 0 0, Value.slice none 0 0, Value.slice none 0 0, Value.slice none 0 0, Value.slice none 0 0, Value.slice none 0 0, Value.slice none 0 0, Value.slice none 0 0, Value.slice none 0 0, Value.slice none 0 0, Value.slice none 0 0, Value.slice none 0 0, Value.slice none 0 0, Value.slice none 0 0, Value.slice none 0 0, Value.slice none 0 0] Bk.tBk) = w.alloc (.cells ((List.range 30).map fun _ => Value.slice none 0 0).toArray Bk.tBk) from rfl]
  have kb := (K0.refl w).alloc (.cells ((List.range 30).map fun _ => Value.slice none 0 0).toArray Bk.tBk)
  have bb : BkC Bk.tBk (w.alloc (.cells ((List.range 30).map fun _ => Value.slice none 0 0).toArray Bk.tBk)) (siz w) (fun _ => .slice none 0 0) := blk_alloc_new
  generalize w.alloc (.cells ((List.range 30).map fun _ => Value.slice none 0 0).toArray Bk.tBk) = w1 at kb bb
  have hs0 : PT w (siz w) w1 (siz w) (fun _ => .slice none 0 0) [] [] [] [] :=
    { bk := bb, Bb := Nat.le_refl _, kS := KS.nil _ _ _ _ _ _ _, kI := KS.nil _ _ _ _ _ _ _, nf := fun _ _ _ => rfl, kp := kb.none, Bw := kb.size }
  generalize hbk : siz w = bo at hs0
  have haw : ∀ {u : World}, Keep (fun g => bo ≤ g) w u → Rd 2 u (.slice pa a.length ca) a.length (flat encS a) := fun {u} k => ha.keepB k fun g _ hg => by omega
  have hbw : ∀ {u : World}, Keep (fun g => bo ≤ g) w u → Rd 2 u (.slice pb b.length cb) b.length (flat encS b) := fun {u} k => hb.keepB k fun g _ hg => by omega
  clear bb kb ha hb
  refine lpc1 a.length (by omega) (fun i u => K0 w1 u) (K0.refl _) (fun i u hi ku J hJ => ?_) (fun u ku J => ?_)
  · intro _j
    have hi' : ((i : Int) < (a.length : Int)) := by omega
    have hs := hs0.k0 ku
    obtain ⟨ga, oa, rfl, q0, q1⟩ := sp_at (haw hs.kp) hi
    have hr := hga _ (List.getElem_mem hi)
    simp only [stp, Nat.reduceAdd, Int.reduceLT, Int.reduceLE, Int.reduceEq, Int.reduceNe, ne_eq, bne_self_eq_false, beq_self_eq_true, stm, hi', ix_70 hi, q0, q1, cel_drew, Option.isSome_some, Option.getD_some]
    generalize a[i] = s at q0 q1 hr
    obtain ⟨x, y⟩ := s
    have hr : -9223372036854775808 ≤ x ∧ x ≤ 9223372036854775807 ∧ -9223372036854775808 ≤ y ∧ y ≤ 9223372036854775807 := hr
    dsimp only at q0 q1 ⊢
    have ka := (K0.refl u).alloc (.cells #[.int .i64 x, .int .i64 y] 72)
    have cs : Cs (u.alloc (.cells #[.int .i64 x, .int .i64 y] 72)) (siz u) x y := Cs.new
    have ku := ku.trans ka
    generalize u.alloc (.cells #[.int .i64 x, .int .i64 y] 72) = u at ku cs
    generalize siz _ = gs at cs
    refine jn1 (fun n u' => n = .int .i64 (if ok (x, y) then y - x else 0) ∧ K0 w1 u' ∧ Cs u' gs x y) (fun J1 hJ1 => ?_) ?_
    · try rw [cs.ld]
      refine rvalid_c fun u1 g1 => ?_
      have cs1 := cs.keep g1.1
      by_cases hok : ok (x, y)
      · have e1 : IntKind.i64.wrap (y - x) = y - x := wrap_id (by have := hok.1; have := hok.2; dsimp only at *; omega) (by have := hok.1; have := hok.2; dsimp only at *; omega)
        simp only [stp, Nat.reduceAdd, Int.reduceLT, Int.reduceLE, Int.reduceEq, Int.reduceNe, ne_eq, bne_self_eq_false, beq_self_eq_true, stm, hok, cs1.1, cs1.2, e1, decide_true, Option.isSome_some, Option.getD_some]
        exact hJ1 _ _ ⟨by rw [if_pos hok], ku.trans g1.1, cs1⟩
      · simp only [stp, Nat.reduceAdd, Int.reduceLT, Int.reduceLE, Int.reduceEq, Int.reduceNe, ne_eq, bne_self_eq_false, beq_self_eq_true, stm, hok, decide_false]
        exact hJ1 _ _ ⟨by rw [if_neg hok], ku.trans g1.1, cs1⟩
    · rintro n u1 ⟨rfl, k1, cs1⟩ _j
      have kd := (K0.refl u1).drew
      have csd := cs1.keep kd
      have hS : ∀ u', K0 u1.drew u' → Cs u' gs x y := fun u' k => csd.keep k
      refine ⟨fun u' => K0 u1.drew u', K0.refl _, ?_⟩
      refine Cs.hl hS ?_
      refine valid_c fun u2 g2 => ⟨g2.1, ?_⟩
      refine Cs.hl hS ?_
      refine rvalid_c fun u3 g3 => ⟨g2.1.trans g3.1, ?_⟩
      simp only [stp, Nat.reduceAdd, Int.reduceLT, Int.reduceLE, Int.reduceEq, Int.reduceNe, ne_eq, bne_self_eq_false, beq_self_eq_true, stm, bne_self_eq_false]
      refine Cs.hl hS ?_
      refine len_c hr.2.2.2 fun u4 g4 => ⟨(g2.1.trans g3.1).trans g4.1, ?_⟩
      simp only [stp, Nat.reduceAdd, Int.reduceLT, Int.reduceLE, Int.reduceEq, Int.reduceNe, ne_eq, bne_self_eq_false, beq_self_eq_true, stm, ne_eq, not_true_eq_false, decide_false, bne_self_eq_false]
      refine Cs.hl hS ?_
      refine has_c fun u5 g5 => ⟨((g2.1.trans g3.1).trans g4.1).trans g5.1, ?_⟩
      have k5 := (k1.trans kd).trans (((g2.1.trans g3.1).trans g4.1).trans g5.1)
      have cs5 := csd.keep (((g2.1.trans g3.1).trans g4.1).trans g5.1)
      have fin : ∀ {P : Prop}, P → P := fun p => p
      have hcel0 : ∀ u', K0 u1.drew u' → (Instr.loadAt 3 (.pointer (some ⟨gs, 0, none⟩))).run Tryz.prog u' = .ok (.int .i64 x) u' := fun u' k => rl_3 (hS u' k).1
      have hcel1 : ∀ u', K0 u1.drew u' → (Instr.loadAt 3 (.pointer (some ⟨gs, 1, none⟩))).run Tryz.prog u' = .ok (.int .i64 y) u' := fun u' k => rl_3 (hS u' k).2
      have rest : P4_1 J (.pointer (some ⟨gs, 0, none⟩)) (.slice pb b.length cb) (.int .i64 (i : Int)) u5 Q := tells_in cs5 (hbw (hs0.kp.trans k5.none)) (by omega) fun w' k => hJ w' (k5.trans k)
      have hzd : hasB (x, y) z ↔ ok (x, y) ∧ x ≤ z ∧ z < y := Iff.rfl
      rcases (show (ok (x, y) ∧ x ≤ z ∧ z < y) ∨ (ok (x, y) ∧ x ≤ z ∧ ¬ z < y) ∨ (ok (x, y) ∧ ¬ x ≤ z) ∨ ¬ ok (x, y) by by_cases h1 : ok (x, y) <;> by_cases h2 : x ≤ z <;> by_cases h3 : z < y <;> simp [h1, h2, h3]) with ⟨h1, h2, h3⟩ | ⟨h1, h2, h3⟩ | ⟨h1, h2⟩ | h1
      · have hp : 0 < y - x := by have := h1.2; dsimp only at this; omega
        have hh : hasB (x, y) z := ⟨h1, h2, h3⟩
        simp only [stp, Nat.reduceAdd, Int.reduceLT, Int.reduceLE, Int.reduceEq, Int.reduceNe, ne_eq, bne_self_eq_false, beq_self_eq_true, stm, h1, if_true, hp, hh, decide_true]
        refine hld_of (.int .i64 x) hcel0 ?_
        simp only [stp, Nat.reduceAdd, Int.reduceLT, Int.reduceLE, Int.reduceEq, Int.reduceNe, ne_eq, bne_self_eq_false, beq_self_eq_true, stm, h2]
        refine hld_of (.int .i64 y) hcel1 ?_
        simp only [stp, Nat.reduceAdd, Int.reduceLT, Int.reduceLE, Int.reduceEq, Int.reduceNe, ne_eq, bne_self_eq_false, beq_self_eq_true, stm, h3, bne_self_eq_false]
        exact rest
      · have hp : 0 < y - x := by have := h1.2; dsimp only at this; omega
        have hh : ¬ hasB (x, y) z := fun e => h3 e.2.2
        simp only [stp, Nat.reduceAdd, Int.reduceLT, Int.reduceLE, Int.reduceEq, Int.reduceNe, ne_eq, bne_self_eq_false, beq_self_eq_true, stm, h1, if_true, hp, hh, decide_false]
        refine hld_of (.int .i64 x) hcel0 ?_
        simp only [stp, Nat.reduceAdd, Int.reduceLT, Int.reduceLE, Int.reduceEq, Int.reduceNe, ne_eq, bne_self_eq_false, beq_self_eq_true, stm, h2]
        refine hld_of (.int .i64 y) hcel1 ?_
        simp only [stp, Nat.reduceAdd, Int.reduceLT, Int.reduceLE, Int.reduceEq, Int.reduceNe, ne_eq, bne_self_eq_false, beq_self_eq_true, stm, h3, bne_self_eq_false]
        exact rest
      · have hp : 0 < y - x := by have := h1.2; dsimp only at this; omega
        have hh : ¬ hasB (x, y) z := fun e => h2 e.2.1
        simp only [stp, Nat.reduceAdd, Int.reduceLT, Int.reduceLE, Int.reduceEq, Int.reduceNe, ne_eq, bne_self_eq_false, beq_self_eq_true, stm, h1, if_true, hp, hh, decide_false]
        refine hld_of (.int .i64 x) hcel0 ?_
        simp only [stp, Nat.reduceAdd, Int.reduceLT, Int.reduceLE, Int.reduceEq, Int.reduceNe, ne_eq, bne_self_eq_false, beq_self_eq_true, stm, h2, bne_self_eq_false]
        exact rest
      · have hh : ¬ hasB (x, y) z := fun e => h1 e.1
        simp only [stp, Nat.reduceAdd, Int.reduceLT, Int.reduceLE, Int.reduceEq, Int.reduceNe, ne_eq, bne_self_eq_false, beq_self_eq_true, stm, h1, if_false, hh, decide_false, bne_self_eq_false]
        exact rest
  · intro _j
    have hi' : ¬ ((a.length : Int) < (a.length : Int)) := by omega
    simp only [stp, Nat.reduceAdd, Int.reduceLT, Int.reduceLE, Int.reduceEq, Int.reduceNe, ne_eq, bne_self_eq_false, beq_self_eq_true, hi']
    refine lpc2 2 (by omega) (fun i y u => ∃ m f pS qS pI qI, y = .int .i64 m ∧ PT w bo u bo f pS qS pI qI) ⟨most, _, _, _, _, _, rfl, hs0.k0 ku⟩ (fun i y u hi ⟨m, f, pS, qS, pI, qI, hy, h⟩ J2 hJ2 => ?_) (fun y u ⟨m, f, pS, qS, pI, qI, hy, h⟩ J2 => ?_)
    · intro _j
      subst hy
      have hi' : ((i : Int) < 2) := by omega
      simp only [stp, Nat.reduceAdd, Int.reduceLT, Int.reduceLE, Int.reduceEq, Int.reduceNe, ne_eq, bne_self_eq_false, beq_self_eq_true, hi']
      refine BkSpans.lent_c (haw h.kp) (by omega) fun u1 x lx k1 => ?_
      have h1 := h.k0 k1
      refine BkSpans.lent_c (hbw h1.kp) (by omega) fun u2 y ly k2 => ?_
      have h2 := h1.k0 k2
      have lx := lx.keep0 k2
      refine rsnorm_c (haw h2.kp) (by omega) fun u3 vN N hN lN oN k3 => ?_
      have h3 := h2.k0 k3
      refine appS0 (haw h3.kp) (by omega) fun u4 v4 o4 k4 => ?_
      have h4 := h3.k0 k4
      refine appS1 o4 k4.size (hbw h4.kp) (by omega) fun u5 v5 o5 k5 => ?_
      have k5 : K0 u3 u5 := k4.trans' k5 fun g hg e => by have := (o4.lt e).1; omega
      have h5 := h3.k0 k5
      refine rsnorm_c o5.rd (by rw [List.length_append]; omega) fun u6 vA NA hNA lA oA k6 => ?_
      rw [List.length_append] at lA
      have k26 := (k3.trans k5).trans k6
      have h6 := h2.k0 k26
      have lx6 := lx.keep0 k26
      have ly6 := ly.keep0 k26
      have oN6 := oN.keep (k5.trans k6) fun _ _ => id
      refine norm_c lx6.rd (by omega) fun u7 vo o hno lo oo k7 => ?_
      have eo : o = N := IsNorm.unique hno hN fun _ => Iff.rfl
      subst eo
      refine join_c (lx6.keep0 k7).rd (ly6.keep0 k7).rd (by omega) fun u8 vp p hnp hmp lp op k8 => ?_
      have ep : p = NA := nrm_unique _ _ hnp hNA.1 fun x => by rw [hmp, hNA.2, memB_append]
      subst ep
      have k68 := k7.trans k8
      refine minus_c (lx6.keep0 k68).rd (ly6.keep0 k68).rd (by omega) fun u9 vq q hnq hmq lq oq k9 => ?_
      have k69 := k68.trans k9
      refine both_c (lx6.keep0 k69).rd (ly6.keep0 k69).rd (by omega) fun u10 vr r hnr hmr lr or' k10 => ?_
      have k610 := k69.trans k10
      have h10 := h6.k0 k610
      have s6 := h6.Bw
      have s7 := k7.size
      have s8 := k8.size
      have s9 := k9.size
      have s10 := k10.size
      have s26 := (k1.trans k2).size
      have s36 := k26.size
      refine addS_c h10 s6 (oo.keep ((k8.trans k9).trans k10) fun _ _ => id) (by omega) (fun g hg => (oo.lt hg).2) (D := siz u10) (by omega) (Nat.le_refl _) (fun g hg => .inl (by have := (h.kS.lt hg).2; omega)) fun u11 f11 pS11 qS11 h11 hne11 hk11 ko11 => ?_
      refine addS_c h11 (by omega) (ko11.own (op.keep (k9.trans k10) fun _ _ => id) fun _ => rfl) (by omega) (fun g hg => (op.lt hg).2) (D := siz u10) (by omega) ko11.size (hk11 (by omega)) fun u12 f12 pS12 qS12 h12 hne12 hk12 ko12 => ?_
      refine addS_c h12 (by omega) (ko12.own (ko11.own (oq.keep k10 fun _ _ => id) fun _ => rfl) fun _ => rfl) (by omega) (fun g hg => (oq.lt hg).2) (D := siz u10) (by omega) (Nat.le_trans ko11.size ko12.size) (hk12 (by omega)) fun u13 f13 pS13 qS13 h13 hne13 hk13 ko13 => ?_
      refine addS_c h13 (by omega) (ko13.own (ko12.own (ko11.own or' fun _ => rfl) fun _ => rfl) fun _ => rfl) (by omega) (fun g hg => (or'.lt hg).2) (D := siz u10) (by omega) (Nat.le_trans (Nat.le_trans ko11.size ko12.size) ko13.size) (hk13 (by omega)) fun u14 f14 pS14 qS14 h14 hne14 _ ko14 => ?_
      have ko : KO bo (tys [Bk.tBk, 70]) u10 u14 := ((ko11.trans ko12).trans ko13).trans ko14
      have oN14 := ko.own (oN6.keep k610 fun _ _ => id) fun _ => rfl
      have oA14 := ko.own (oA.keep k610 fun _ _ => id) fun _ => rfl
      have oo14 := ko.own (oo.keep ((k8.trans k9).trans k10) fun _ _ => id) fun _ => rfl
      have op14 := ko.own (op.keep (k9.trans k10) fun _ _ => id) fun _ => rfl
      have oq14 := ko.own (oq.keep k10 fun _ _ => id) fun _ => rfl
      have or14 := ko.own or' fun _ => rfl
      have lx14 := (lx6.keep0 k610).ko ko fun _ => rfl
      have ly14 := (ly6.keep0 k610).ko ko fun _ => rfl
      refine BkSpans.same_c (a := o) (b := o) oo14.rd oN14.rd (by omega) fun u15 k15 => ?_
      simp only [stp, Nat.reduceAdd, Int.reduceLT, Int.reduceLE, Int.reduceEq, Int.reduceNe, ne_eq, bne_self_eq_false, beq_self_eq_true, stm, decide_true]
      refine BkSpans.same_c (a := p) (b := p) (op14.keep k15 fun _ _ => id).rd (oA14.keep k15 fun _ _ => id).rd (by omega) fun u16 k16 => ?_
      simp only [stp, Nat.reduceAdd, Int.reduceLT, Int.reduceLE, Int.reduceEq, Int.reduceNe, ne_eq, bne_self_eq_false, beq_self_eq_true, stm, decide_true]
      have k16 := k15.trans k16
      have h16 := h14.k0 k16
      refine rminus_c (haw h16.kp) (hbw h16.kp) (by omega) fun u17 vm mm nm memm lm om k17 => ?_
      have em : mm = q := nrm_unique _ _ nm hnq fun x => by rw [memm, hmq]
      subst em
      have k17 := k16.trans k17
      refine BkSpans.same_c (a := mm) (b := mm) (oq14.keep k17 fun _ _ => id).rd om.rd (by omega) fun u18 k18 => ?_
      simp only [stp, Nat.reduceAdd, Int.reduceLT, Int.reduceLE, Int.reduceEq, Int.reduceNe, ne_eq, bne_self_eq_false, beq_self_eq_true, stm, decide_true]
      have k18 := k17.trans k18
      have h18 := h14.k0 k18
      refine rboth_c (haw h18.kp) (hbw h18.kp) (by omega) fun u19 vn nn nn1 memn ln on k19 => ?_
      have en : nn = r := nrm_unique _ _ nn1 hnr fun x => by rw [memn, hmr]
      subst en
      have k19 := k18.trans k19
      refine BkSpans.same_c (a := nn) (b := nn) (or14.keep k19 fun _ _ => id).rd on.rd (by omega) fun u20 k20 => ?_
      simp only [stp, Nat.reduceAdd, Int.reduceLT, Int.reduceLE, Int.reduceEq, Int.reduceNe, ne_eq, bne_self_eq_false, beq_self_eq_true, stm, decide_true]
      have k20 := k19.trans k20
      refine covers_c (lx14.keep0 k20).rd (ly14.keep0 k20).rd (by omega) fun u21 rc hrc k21 => ?_
      have k21 := k20.trans k21
      have h21 := h14.k0 k21
      refine rminus_c (hbw h21.kp) (haw h21.kp) (by omega) fun u22 vc cc nc memc lc oc k22 => ?_
      have k22 := k21.trans k22
      obtain ⟨pc, kc, rfl⟩ := oc.form
      have er : rc = decide ((cc.length : Int) = 0) := by
        rw [Bool.eq_iff_iff, hrc, decide_eq_true_eq]
        constructor
        · intro hall
          have : cc = [] := nrm_unique _ _ nc Nrm.nil fun x => by
            rw [memc, memB_nil]
            exact ⟨fun e => e.2 (hall x e.1), False.elim⟩
          rw [this]; rfl
        · intro h0 y' hy'
          have : cc = [] := List.length_eq_zero_iff.1 (by omega)
          refine Classical.byContradiction fun hn => ?_
          have h2 := (memc y').2 ⟨hy', hn⟩
          rw [this, memB_nil] at h2
          exact h2
      subst er
      simp only [stp, Nat.reduceAdd, Int.reduceLT, Int.reduceLE, Int.reduceEq, Int.reduceNe, ne_eq, bne_self_eq_false, beq_self_eq_true, stm, bne_self_eq_false]
      have h22 := h14.k0 k22
      refine BkSpans.stays_c (lx14.keep0 k22) (haw h22.kp) (by omega) fun u23 k23 => ?_
      have k23 := k22.trans k23
      have h23 := h14.k0 k23
      simp only [stp, Nat.reduceAdd, Int.reduceLT, Int.reduceLE, Int.reduceEq, Int.reduceNe, ne_eq, bne_self_eq_false, beq_self_eq_true, stm]
      refine BkSpans.stays_c (ly14.keep0 k23) (hbw h23.kp) (by omega) fun u24 k24 => ?_
      have k24 := k23.trans k24
      have h24 := h14.k0 k24
      simp only [stp, Nat.reduceAdd, Int.reduceLT, Int.reduceLE, Int.reduceEq, Int.reduceNe, ne_eq, bne_self_eq_false, beq_self_eq_true, stm]
      refine jn1 (fun y' w' => ∃ m', y' = .int .i64 m' ∧ m' ≤ 3000 ∧ w' = u24) (fun J6 hJ6 => ?_) ?_
      · by_cases hm : 3000 < m
        · simp only [stp, Nat.reduceAdd, Int.reduceLT, Int.reduceLE, Int.reduceEq, Int.reduceNe, ne_eq, bne_self_eq_false, beq_self_eq_true, stm, hm]; exact hJ6 _ _ ⟨3000, rfl, by omega, rfl⟩
        · simp only [stp, Nat.reduceAdd, Int.reduceLT, Int.reduceLE, Int.reduceEq, Int.reduceNe, ne_eq, bne_self_eq_false, beq_self_eq_true, stm, hm]; exact hJ6 _ _ ⟨m, rfl, by omega, rfl⟩
      · rintro y' w' ⟨m', rfl, hm', rfl⟩ _j
        have hga' : ∀ s ∈ a, s.2 ≤ 9223372036854775807 := fun s hs => (hga s hs).2.2.2
        have hend := norm_ends hN hga'
        refine blocks_c (lx14.keep0 k24).rd (by omega) hga' hm' fun u25 vl N2 bs hn2 hb1 hb2 ol k25 => ?_
        have eN : N2 = o := IsNorm.unique hn2 hN fun _ => Iff.rfl
        subst eN
        have h25 := h24.k0 k25
        have oN25 := oN14.keep (k24.trans k25) fun _ _ => id
        have sB := h24.Bw
        have bsl : bs.length ≤ 3000 := by
          by_cases hs : sumS N2 ≤ m'
          · rw [hb1 hs]; have := blkL_len N2 hN.1.1; omega
          · rw [hb2 hs]; simp
        have hJ' : ∀ w' f' pI' qI', PT w bo w' bo f' pS14 qS14 pI' qI' → J2 (.int .i64 m') (.int .i64 (IntKind.i64.wrap ((i : Int) + 1))) w' := fun w' f' pI' qI' hp => hJ2 _ _ ⟨m', f', _, _, pI', qI', rfl, hp⟩
        by_cases h0 : 0 ≤ m'
        · simp only [stp, Nat.reduceAdd, Int.reduceLT, Int.reduceLE, Int.reduceEq, Int.reduceNe, ne_eq, bne_self_eq_false, beq_self_eq_true, stm, h0]
          refine rblocks_c oN25.rd hN.1 (by omega) hend h0 hm' fun u26 rr hr k26 => ?_
          have h26 := h25.k0 k26
          by_cases hs : sumS N2 ≤ m'
          · have hrr := hr.2 hs
            simp only [stp, Nat.reduceAdd, Int.reduceLT, Int.reduceLE, Int.reduceEq, Int.reduceNe, ne_eq, bne_self_eq_false, beq_self_eq_true, stm, hs, hrr, decide_true, bne_self_eq_false]
            exact tail_c h26 hN.1 hend (by omega) (oN25.keep k26 fun _ _ => id) (ol.keep k26 fun _ _ => id) sB (fun g hg => (h24.kI.lt hg).2) (fun _ => hb1 hs) (fun e => by cases e) bsl hJ'
          · have hrr : ¬ rr ≤ m' := fun e => hs (hr.1 e)
            simp only [stp, Nat.reduceAdd, Int.reduceLT, Int.reduceLE, Int.reduceEq, Int.reduceNe, ne_eq, bne_self_eq_false, beq_self_eq_true, stm, hs, hrr, decide_false, bne_self_eq_false]
            exact tail_c h26 hN.1 hend (by omega) (oN25.keep k26 fun _ _ => id) (ol.keep k26 fun _ _ => id) sB (fun g hg => (h24.kI.lt hg).2) (fun e => by cases e) (fun _ => hb2 hs) bsl hJ'
        · have hs : ¬ sumS N2 ≤ m' := by have := sumS_nonneg hN.1.1; omega
          simp only [stp, Nat.reduceAdd, Int.reduceLT, Int.reduceLE, Int.reduceEq, Int.reduceNe, ne_eq, bne_self_eq_false, beq_self_eq_true, stm, h0, hs, decide_false, bne_self_eq_false]
          exact tail_c h25 hN.1 hend (by omega) oN25 ol sB (fun g hg => (h24.kI.lt hg).2) (fun e => by cases e) (fun _ => hb2 hs) bsl hJ'
    · intro _j
      subst hy
      have hi' : ¬ (((2 : Nat) : Int) < 2) := by omega
      simp only [stp, Nat.reduceAdd, Int.reduceLT, Int.reduceLE, Int.reduceEq, Int.reduceNe, ne_eq, bne_self_eq_false, beq_self_eq_true, hi']
      refine alive_c fun u1 k1 => ?_
      have h := h.k0 k1
      simp only [stp, Nat.reduceAdd, Int.reduceLT, Int.reduceLE, Int.reduceEq, Int.reduceNe, ne_eq, bne_self_eq_false, beq_self_eq_true, stm]
      refine Bk.apart_c h.bk h.Bw h.nf h.kI h.kS fun u2 k2 => ?_
      try simp only [stp, Nat.reduceAdd, Int.reduceLT, Int.reduceLE, Int.reduceEq, Int.reduceNe, ne_eq, bne_self_eq_false, beq_self_eq_true, stm]
      refine hq _ ?_
      rw [hbk]
      exact h.kp.trans k2
end
end Go.Proofs.YtndjohbbaplekaaGreatP
