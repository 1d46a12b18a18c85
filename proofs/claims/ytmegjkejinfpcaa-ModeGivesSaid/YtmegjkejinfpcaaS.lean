/- The readings of the functions' code, printed by a program, each held equal to the one that is computed: for all arguments, all worlds.
   Conditions: none. -/
import Derived.Test.YtmegjkejinfpcaaShC
import Derived.Test.YtmegjkejinfpcaaProg
import Derived.KernelRfl
set_option linter.unusedSimpArgs false
set_option linter.unusedVariables false
namespace Go.Proofs.Ytmegjkejinfpcaa
open Go.Sh
set_option maxRecDepth 100000
theorem mix : Try.prog.follows .mixedOrders = true := by kernel_rfl

-- gosem.cut.init
def S2 (Q : Value → World → Prop) (w : World) : Prop :=
 callS Try.prog 1 #[] (fun _ w_1 => 
 Q (.tuple #[]) w_1) w
theorem eq2 (Q : Value → World → Prop) (w : World) : semF Try.prog 2 [] Q w = S2 Q w := by kernel_rfl
theorem ref2 {Q : Value → World → Prop} {w : World} (h : S2 Q w) : callS Try.prog 2 #[] Q w :=
  callS_of mix (fun a w => Try.call2 a w) (by kernel_rfl) (by rw [eq2]; exact h)
-- commons/commonslaw17.ModeNorms
def S3 (v_l v_block : Value) (Q : Value → World → Prop) (w : World) : Prop :=
 pur Try.prog (Builtin.len_ #[22] 3 #[v_l]) fun t14 => 
 pur Try.prog (binS .gtr 3 false true t14 (.int .i64 40)) fun t15 => 
 condS t15
  (callS Try.prog 8 #[] (fun t16 w_1 => 
  Q t16 w_1) w)
  (pur Try.prog (Builtin.len_ #[22] 3 #[v_l]) fun t18 => 
 pur Try.prog (binS .sub 3 false true t18 (.int .i64 1)) fun t19 => 
 lp 3 (fun J => fun v_back v_want v_i w_2 => ∀ _j : Fr, 
  pur Try.prog (binS .geq 3 false true v_i (.int .i64 0)) fun t21 => 
  condS t21
   (jn 2 (fun J_1 => 
   pur Try.prog (Instr.indexAt 22 v_l v_i) fun t27 => 
   rd Try.prog (Instr.loadAt 27 t27) (fun t28 => 
   act Try.prog (Instr.buildSlice 22 1 #[(0, t28)]) (fun t29 w_3 => 
   act Try.prog (Builtin.append_ #[22, 22] 22 #[v_back, t29]) (fun t30 w_4 => 
   pur Try.prog (Instr.indexAt 22 v_l v_i) fun t33 => 
   pur Try.prog (Instr.fieldAt 27 t33 0) fun t34 => 
   rd Try.prog (Instr.loadAt 25 t34) (fun t35 => 
   act Try.prog (Instr.alloc 25 true (.tuple #[])) (fun t8 w_5 => 
   act Try.prog (thenU (Instr.storeAt 25 t8 t35)) (fun _ w_6 => 
   pur Try.prog (Instr.fieldAt 25 t8 0) fun t36 => 
   rd Try.prog (Instr.loadAt 3 t36) (fun t37 => 
   pur Try.prog (binS .geq 3 false true t37 (.int .i64 0)) fun t38 => 
   gd t38 true (fun k w_7 => pur Try.prog (Instr.fieldAt 25 t8 0) fun t40 => k t40 w_7) (fun t40_1 w_8 => 
   gd t38 true (fun k_1 w_9 => rd Try.prog (Instr.loadAt 3 t40_1) (fun t41 => k_1 t41 w_9) w_9) (fun t41_1 w_10 => 
   gd t38 true (fun k_2 w_11 => k_2 v_block w_11) (fun t42_1 w_12 => 
   gd t38 true (fun k_3 w_13 => pur Try.prog (binS .leq 3 false false t41_1 t42_1) fun t43 => k_3 t43 w_13) (fun t43_1 w_14 => 
   pur Try.prog (pickS t38 t43_1 (.bool false)) fun t44 => 
   gd t44 true (fun k_4 w_15 => k_4 v_block w_15) (fun t46_1 w_16 => 
   gd t44 true (fun k_5 w_17 => pur Try.prog (Instr.fieldAt 25 t8 1) fun t47 => k_5 t47 w_17) (fun t47_1 w_18 => 
   gd t44 true (fun k_6 w_19 => rd Try.prog (Instr.loadAt 3 t47_1) (fun t48 => k_6 t48 w_19) w_19) (fun t48_1 w_20 => 
   gd t44 true (fun k_7 w_21 => pur Try.prog (binS .lss 3 false false t46_1 t48_1) fun t49 => k_7 t49 w_21) (fun t49_1 w_22 => 
   pur Try.prog (pickS t44 t49_1 (.bool false)) fun t50 => 
   gd t50 true (fun k_8 w_23 => k_8 v_l w_23) (fun t52_1 w_24 => 
   gd t50 true (fun k_9 w_25 => k_9 v_i w_25) (fun t53_1 w_26 => 
   gd t50 true (fun k_10 w_27 => pur Try.prog (Instr.indexAt 22 t52_1 t53_1) fun t54 => k_10 t54 w_27) (fun t54_1 w_28 => 
   gd t50 true (fun k_11 w_29 => pur Try.prog (Instr.fieldAt 27 t54_1 1) fun t55 => k_11 t55 w_29) (fun t55_1 w_30 => 
   gd t50 true (fun k_12 w_31 => rd Try.prog (Instr.loadAt 3 t55_1) (fun t56 => k_12 t56 w_31) w_31) (fun t56_1 w_32 => 
   gd t50 true (fun k_13 w_33 => pur Try.prog (binS .eql 3 false true t56_1 (.int .i64 1)) fun t57 => k_13 t57 w_33) (fun t57_1 w_34 => 
   gd t50 true (fun k_14 w_35 => k_14 t57_1 w_35) (fun t58_1 w_36 => 
   gd t58_1 false (fun k_15 w_37 => k_15 v_l w_37) (fun t59_1 w_38 => 
   gd t58_1 false (fun k_16 w_39 => k_16 v_i w_39) (fun t60_1 w_40 => 
   gd t58_1 false (fun k_17 w_41 => pur Try.prog (Instr.indexAt 22 t59_1 t60_1) fun t61 => k_17 t61 w_41) (fun t61_1 w_42 => 
   gd t58_1 false (fun k_18 w_43 => pur Try.prog (Instr.fieldAt 27 t61_1 1) fun t62 => k_18 t62 w_43) (fun t62_1 w_44 => 
   gd t58_1 false (fun k_19 w_45 => rd Try.prog (Instr.loadAt 3 t62_1) (fun t63 => k_19 t63 w_45) w_45) (fun t63_1 w_46 => 
   gd t58_1 false (fun k_20 w_47 => pur Try.prog (binS .eql 3 false true t63_1 (.int .i64 2)) fun t64 => k_20 t64 w_47) (fun t64_1 w_48 => 
   gd t50 true (fun k_21 w_49 => pur Try.prog (pickS t58_1 (.bool true) t64_1) fun t65 => k_21 t65 w_49) (fun t65_1 w_50 => 
   pur Try.prog (pickS t50 t65_1 (.bool false)) fun t66 => 
   condS t66
    (pur Try.prog (Instr.indexAt 22 v_l v_i) fun t70 => 
    pur Try.prog (Instr.fieldAt 27 t70 1) fun t71 => 
    rd Try.prog (Instr.loadAt 3 t71) (fun t72 => 
    pur Try.prog (Builtin.max_ #[3, 3] 3 #[v_want, t72]) fun t73 => 
    J_1 t30 t73 w_50) w_50)
    (J_1 t30 v_want w_50)) w_48) w_46) w_44) w_42) w_40) w_38) w_36) w_34) w_32) w_30) w_28) w_26) w_24) w_22) w_20) w_18) w_16) w_14) w_12) w_10) w_8) w_6) w_6) w_5) w_4) w_4) w_3) w_2) w_2)
  (fun v_back_1 v_want_1 w_51 => ∀ _j : Fr, 
   pur Try.prog (binS .sub 3 false true v_i (.int .i64 1)) fun t23 => 
   J v_back_1 v_want_1 t23 w_51))
   (callS Try.prog 9 #[v_l] (fun t75 w_52 => 
 callS Try.prog 9 #[v_back] (fun t77 w_53 => 
 pur Try.prog (Builtin.len_ #[22] 3 #[t75]) fun t79 => 
 pur Try.prog (Builtin.len_ #[22] 3 #[t77]) fun t81 => 
 pur Try.prog (binS .neq 3 false false t79 t81) fun t82 => 
 condS t82
  (Q (.bool false) w_53)
  (lp 2 (fun J_2 => fun v_got v_i_1 w_54 => ∀ _j : Fr, 
  pur Try.prog (Builtin.len_ #[22] 3 #[t75]) fun t85 => 
  pur Try.prog (binS .lss 3 false false v_i_1 t85) fun t86 => 
  condS t86
   (jn 1 (fun J_3 => 
   pur Try.prog (Instr.indexAt 22 t75 v_i_1) fun t91 => 
   rd Try.prog (Instr.loadAt 27 t91) (fun t92 => 
   pur Try.prog (Instr.indexAt 22 t77 v_i_1) fun t95 => 
   rd Try.prog (Instr.loadAt 27 t95) (fun t96 => 
   rd Try.prog (binS .neq 27 false false t92 t96) (fun t97 => 
   gd t97 false (fun k_22 w_55 => k_22 v_i_1 w_55) (fun t99_1 w_56 => 
   gd t97 false (fun k_23 w_57 => pur Try.prog (binS .gtr 3 false true t99_1 (.int .i64 0)) fun t100 => k_23 t100 w_57) (fun t100_1 w_58 => 
   gd t97 false (fun k_24 w_59 => k_24 t100_1 w_59) (fun t101_1 w_60 => 
   gd t101_1 true (fun k_25 w_61 => k_25 t75 w_61) (fun t102_1 w_62 => 
   gd t101_1 true (fun k_26 w_63 => k_26 v_i_1 w_63) (fun t103_1 w_64 => 
   gd t101_1 true (fun k_27 w_65 => pur Try.prog (binS .sub 3 false true t103_1 (.int .i64 1)) fun t104 => k_27 t104 w_65) (fun t104_1 w_66 => 
   gd t101_1 true (fun k_28 w_67 => pur Try.prog (Instr.indexAt 22 t102_1 t104_1) fun t105 => k_28 t105 w_67) (fun t105_1 w_68 => 
   gd t101_1 true (fun k_29 w_69 => pur Try.prog (Instr.fieldAt 27 t105_1 0) fun t106 => k_29 t106 w_69) (fun t106_1 w_70 => 
   gd t101_1 true (fun k_30 w_71 => pur Try.prog (Instr.fieldAt 25 t106_1 1) fun t107 => k_30 t107 w_71) (fun t107_1 w_72 => 
   gd t101_1 true (fun k_31 w_73 => rd Try.prog (Instr.loadAt 3 t107_1) (fun t108 => k_31 t108 w_73) w_73) (fun t108_1 w_74 => 
   gd t101_1 true (fun k_32 w_75 => k_32 t75 w_75) (fun t109_1 w_76 => 
   gd t101_1 true (fun k_33 w_77 => k_33 v_i_1 w_77) (fun t110_1 w_78 => 
   gd t101_1 true (fun k_34 w_79 => pur Try.prog (Instr.indexAt 22 t109_1 t110_1) fun t111 => k_34 t111 w_79) (fun t111_1 w_80 => 
   gd t101_1 true (fun k_35 w_81 => pur Try.prog (Instr.fieldAt 27 t111_1 0) fun t112 => k_35 t112 w_81) (fun t112_1 w_82 => 
   gd t101_1 true (fun k_36 w_83 => pur Try.prog (Instr.fieldAt 25 t112_1 0) fun t113 => k_36 t113 w_83) (fun t113_1 w_84 => 
   gd t101_1 true (fun k_37 w_85 => rd Try.prog (Instr.loadAt 3 t113_1) (fun t114 => k_37 t114 w_85) w_85) (fun t114_1 w_86 => 
   gd t101_1 true (fun k_38 w_87 => pur Try.prog (binS .gtr 3 false false t108_1 t114_1) fun t115 => k_38 t115 w_87) (fun t115_1 w_88 => 
   gd t101_1 true (fun k_39 w_89 => k_39 t115_1 w_89) (fun t116_1 w_90 => 
   gd t116_1 false (fun k_40 w_91 => k_40 t75 w_91) (fun t117_1 w_92 => 
   gd t116_1 false (fun k_41 w_93 => k_41 v_i_1 w_93) (fun t118_1 w_94 => 
   gd t116_1 false (fun k_42 w_95 => pur Try.prog (binS .sub 3 false true t118_1 (.int .i64 1)) fun t119 => k_42 t119 w_95) (fun t119_1 w_96 => 
   gd t116_1 false (fun k_43 w_97 => pur Try.prog (Instr.indexAt 22 t117_1 t119_1) fun t120 => k_43 t120 w_97) (fun t120_1 w_98 => 
   gd t116_1 false (fun k_44 w_99 => pur Try.prog (Instr.fieldAt 27 t120_1 0) fun t121 => k_44 t121 w_99) (fun t121_1 w_100 => 
   gd t116_1 false (fun k_45 w_101 => pur Try.prog (Instr.fieldAt 25 t121_1 1) fun t122 => k_45 t122 w_101) (fun t122_1 w_102 => 
   gd t116_1 false (fun k_46 w_103 => rd Try.prog (Instr.loadAt 3 t122_1) (fun t123 => k_46 t123 w_103) w_103) (fun t123_1 w_104 => 
   gd t116_1 false (fun k_47 w_105 => k_47 t75 w_105) (fun t124_1 w_106 => 
   gd t116_1 false (fun k_48 w_107 => k_48 v_i_1 w_107) (fun t125_1 w_108 => 
   gd t116_1 false (fun k_49 w_109 => pur Try.prog (Instr.indexAt 22 t124_1 t125_1) fun t126 => k_49 t126 w_109) (fun t126_1 w_110 => 
   gd t116_1 false (fun k_50 w_111 => pur Try.prog (Instr.fieldAt 27 t126_1 0) fun t127 => k_50 t127 w_111) (fun t127_1 w_112 => 
   gd t116_1 false (fun k_51 w_113 => pur Try.prog (Instr.fieldAt 25 t127_1 0) fun t128 => k_51 t128 w_113) (fun t128_1 w_114 => 
   gd t116_1 false (fun k_52 w_115 => rd Try.prog (Instr.loadAt 3 t128_1) (fun t129 => k_52 t129 w_115) w_115) (fun t129_1 w_116 => 
   gd t116_1 false (fun k_53 w_117 => pur Try.prog (binS .eql 3 false false t123_1 t129_1) fun t130 => k_53 t130 w_117) (fun t130_1 w_118 => 
   gd t116_1 false (fun k_54 w_119 => k_54 t130_1 w_119) (fun t131_1 w_120 => 
   gd t131_1 true (fun k_55 w_121 => k_55 t75 w_121) (fun t132_1 w_122 => 
   gd t131_1 true (fun k_56 w_123 => k_56 v_i_1 w_123) (fun t133_1 w_124 => 
   gd t131_1 true (fun k_57 w_125 => pur Try.prog (binS .sub 3 false true t133_1 (.int .i64 1)) fun t134 => k_57 t134 w_125) (fun t134_1 w_126 => 
   gd t131_1 true (fun k_58 w_127 => pur Try.prog (Instr.indexAt 22 t132_1 t134_1) fun t135 => k_58 t135 w_127) (fun t135_1 w_128 => 
   gd t131_1 true (fun k_59 w_129 => pur Try.prog (Instr.fieldAt 27 t135_1 1) fun t136 => k_59 t136 w_129) (fun t136_1 w_130 => 
   gd t131_1 true (fun k_60 w_131 => rd Try.prog (Instr.loadAt 3 t136_1) (fun t137 => k_60 t137 w_131) w_131) (fun t137_1 w_132 => 
   gd t131_1 true (fun k_61 w_133 => k_61 t75 w_133) (fun t138_1 w_134 => 
   gd t131_1 true (fun k_62 w_135 => k_62 v_i_1 w_135) (fun t139_1 w_136 => 
   gd t131_1 true (fun k_63 w_137 => pur Try.prog (Instr.indexAt 22 t138_1 t139_1) fun t140 => k_63 t140 w_137) (fun t140_1 w_138 => 
   gd t131_1 true (fun k_64 w_139 => pur Try.prog (Instr.fieldAt 27 t140_1 1) fun t141 => k_64 t141 w_139) (fun t141_1 w_140 => 
   gd t131_1 true (fun k_65 w_141 => rd Try.prog (Instr.loadAt 3 t141_1) (fun t142 => k_65 t142 w_141) w_141) (fun t142_1 w_142 => 
   gd t131_1 true (fun k_66 w_143 => pur Try.prog (binS .eql 3 false false t137_1 t142_1) fun t143 => k_66 t143 w_143) (fun t143_1 w_144 => 
   gd t116_1 false (fun k_67 w_145 => pur Try.prog (pickS t131_1 t143_1 (.bool false)) fun t144 => k_67 t144 w_145) (fun t144_1 w_146 => 
   gd t101_1 true (fun k_68 w_147 => pur Try.prog (pickS t116_1 (.bool true) t144_1) fun t145 => k_68 t145 w_147) (fun t145_1 w_148 => 
   gd t97 false (fun k_69 w_149 => pur Try.prog (pickS t101_1 t145_1 (.bool false)) fun t146 => k_69 t146 w_149) (fun t146_1 w_150 => 
   pur Try.prog (pickS t97 (.bool true) t146_1) fun t147 => 
   condS t147
    (Q (.bool false) w_150)
    (pur Try.prog (Instr.indexAt 22 t75 v_i_1) fun t150 => 
   pur Try.prog (Instr.fieldAt 27 t150 0) fun t151 => 
   pur Try.prog (Instr.fieldAt 25 t151 0) fun t152 => 
   rd Try.prog (Instr.loadAt 3 t152) (fun t153 => 
   pur Try.prog (binS .leq 3 false false t153 v_block) fun t155 => 
   gd t155 true (fun k_70 w_151 => k_70 v_block w_151) (fun t157_1 w_152 => 
   gd t155 true (fun k_71 w_153 => k_71 t75 w_153) (fun t158_1 w_154 => 
   gd t155 true (fun k_72 w_155 => k_72 v_i_1 w_155) (fun t159_1 w_156 => 
   gd t155 true (fun k_73 w_157 => pur Try.prog (Instr.indexAt 22 t158_1 t159_1) fun t160 => k_73 t160 w_157) (fun t160_1 w_158 => 
   gd t155 true (fun k_74 w_159 => pur Try.prog (Instr.fieldAt 27 t160_1 0) fun t161 => k_74 t161 w_159) (fun t161_1 w_160 => 
   gd t155 true (fun k_75 w_161 => pur Try.prog (Instr.fieldAt 25 t161_1 1) fun t162 => k_75 t162 w_161) (fun t162_1 w_162 => 
   gd t155 true (fun k_76 w_163 => rd Try.prog (Instr.loadAt 3 t162_1) (fun t163 => k_76 t163 w_163) w_163) (fun t163_1 w_164 => 
   gd t155 true (fun k_77 w_165 => pur Try.prog (binS .lss 3 false false t157_1 t163_1) fun t164 => k_77 t164 w_165) (fun t164_1 w_166 => 
   pur Try.prog (pickS t155 t164_1 (.bool false)) fun t165 => 
   condS t165
    (pur Try.prog (Instr.indexAt 22 t75 v_i_1) fun t168 => 
    pur Try.prog (Instr.fieldAt 27 t168 1) fun t169 => 
    rd Try.prog (Instr.loadAt 3 t169) (fun t170 => 
    J_3 t170 w_166) w_166)
    (J_3 v_got w_166)) w_164) w_162) w_160) w_158) w_156) w_154) w_152) w_150) w_150)) w_148) w_146) w_144) w_142) w_140) w_138) w_136) w_134) w_132) w_130) w_128) w_126) w_124) w_122) w_120) w_118) w_116) w_114) w_112) w_110) w_108) w_106) w_104) w_102) w_100) w_98) w_96) w_94) w_92) w_90) w_88) w_86) w_84) w_82) w_80) w_78) w_76) w_74) w_72) w_70) w_68) w_66) w_64) w_62) w_60) w_58) w_56) (World.drew w_54)) (World.drew w_54)) (World.drew w_54)) (World.drew w_54))
  (fun v_got_1 w_167 => ∀ _j : Fr, 
   pur Try.prog (binS .add 3 false true v_i_1 (.int .i64 1)) fun t88 => 
   J_2 v_got_1 t88 w_167))
   (callS Try.prog 8 #[] (fun t171 w_168 => 
 gd t171 true (fun k_78 w_169 => k_78 v_got w_169) (fun t173_1 w_170 => 
 gd t171 true (fun k_79 w_171 => k_79 v_want w_171) (fun t174_1 w_172 => 
 gd t171 true (fun k_80 w_173 => pur Try.prog (binS .eql 3 false false t173_1 t174_1) fun t175 => k_80 t175 w_173) (fun t175_1 w_174 => 
 pur Try.prog (pickS t171 t175_1 (.bool false)) fun t176 => 
 Q t176 w_174) w_172) w_170) w_168) w_54)) [(.int .i64 0), (.int .i64 0)] w_53)) w_52) w_2)) [(.slice none 0 0), (.int .i64 0), t19] w)
theorem eq3 (v_l v_block : Value) (Q : Value → World → Prop) (w : World) : semF Try.prog 3 [v_l, v_block] Q w = S3 v_l v_block Q w := by kernel_rfl
theorem ref3 {v_l v_block : Value} {Q : Value → World → Prop} {w : World} (h : S3 v_l v_block Q w) : callS Try.prog 3 #[v_l, v_block] Q w :=
  callS_of mix (fun a w => Try.call3 a w) (by kernel_rfl) (by rw [eq3]; exact h)
-- commons/commonslaw17.ModeTells
def S4 (v_a v_b v_s : Value) (Q : Value → World → Prop) (w : World) : Prop :=
 pur Try.prog (Builtin.len_ #[9] 3 #[v_s]) fun t14 => 
 pur Try.prog (binS .gtr 3 false true t14 (.int .i64 300)) fun t15 => 
 condS t15
  (callS Try.prog 8 #[] (fun t16 w_1 => 
  Q t16 w_1) w)
  (jn 1 (fun J => 
  callS Try.prog 10 #[v_a] (fun t18 w_2 => 
  condS t18
   (act Try.prog (Instr.buildSlice 31 3 #[(0, (.string ⟨#[110, 111, 110, 101]⟩)), (1, (.string ⟨#[115, 104, 97, 114, 101, 100]⟩)), (2, (.string ⟨#[101, 120, 99, 108, 117, 115, 105, 118, 101]⟩))]) (fun t19 w_3 => 
   pur Try.prog (Instr.indexAt 31 t19 v_a) fun t21 => 
   rd Try.prog (Instr.loadAt 9 t21) (fun t22 => 
   J t22 w_3) w_3) w_2)
   (J (.string ⟨#[]⟩) w_2)) w)
 (fun v_name w_4 => ∀ _j : Fr, 
  callS Try.prog 11 #[v_s] (fun t25 w_5 => 
  pur Try.prog (Instr.extract t25 0) fun t26 => 
  pur Try.prog (Instr.extract t25 1) fun t27 => 
  lp 3 (fun J_1 => fun v_want v_is v_i w_6 => ∀ _j : Fr, 
   pur Try.prog (binS .lss 3 false true v_i (.int .i64 3)) fun t29 => 
   condS t29
    (jn 2 (fun J_2 => 
    act Try.prog (Instr.buildSlice 31 3 #[(0, (.string ⟨#[110, 111, 110, 101]⟩)), (1, (.string ⟨#[115, 104, 97, 114, 101, 100]⟩)), (2, (.string ⟨#[101, 120, 99, 108, 117, 115, 105, 118, 101]⟩))]) (fun t33 w_7 => 
    pur Try.prog (Instr.indexAt 31 t33 v_i) fun t35 => 
    rd Try.prog (Instr.loadAt 9 t35) (fun t36 => 
    pur Try.prog (binS .eql 9 false false v_s t36) fun t37 => 
    condS t37
     (J_2 v_i (.bool true) w_7)
     (J_2 v_want v_is w_7)) w_7) w_6)
   (fun v_want_1 v_is_1 w_8 => ∀ _j : Fr, 
    pur Try.prog (binS .add 3 false true v_i (.int .i64 1)) fun t31 => 
    J_1 v_want_1 v_is_1 t31 w_8))
    (callS Try.prog 8 #[] (fun t39 w_9 => 
  gd t39 true (fun k w_10 => k v_a w_10) (fun t41_1 w_11 => 
  gd t39 true (fun k_1 w_12 => callS Try.prog 12 #[t41_1] (fun t42 w_13 => k_1 t42 w_13) w_12) (fun t42_1 w_14 => 
  gd t39 true (fun k_2 w_15 => k_2 v_a w_15) (fun t43_1 w_16 => 
  gd t39 true (fun k_3 w_17 => callS Try.prog 10 #[t43_1] (fun t44 w_18 => k_3 t44 w_18) w_17) (fun t44_1 w_19 => 
  gd t39 true (fun k_4 w_20 => pur Try.prog (binS .eql 4 false false t42_1 t44_1) fun t45 => k_4 t45 w_20) (fun t45_1 w_21 => 
  pur Try.prog (pickS t39 t45_1 (.bool false)) fun t46 => 
  gd t46 true (fun k_5 w_22 => k_5 v_a w_22) (fun t48_1 w_23 => 
  gd t46 true (fun k_6 w_24 => k_6 v_b w_24) (fun t49_1 w_25 => 
  gd t46 true (fun k_7 w_26 => callS Try.prog 13 #[t48_1, t49_1] (fun t50 w_27 => k_7 t50 w_27) w_26) (fun t50_1 w_28 => 
  gd t46 true (fun k_8 w_29 => k_8 v_a w_29) (fun t51_1 w_30 => 
  gd t46 true (fun k_9 w_31 => k_9 v_b w_31) (fun t52_1 w_32 => 
  gd t46 true (fun k_10 w_33 => callS Try.prog 14 #[t51_1, t52_1] (fun t53 w_34 => k_10 t53 w_34) w_33) (fun t53_1 w_35 => 
  gd t46 true (fun k_11 w_36 => pur Try.prog (binS .eql 4 false false t50_1 t53_1) fun t54 => k_11 t54 w_36) (fun t54_1 w_37 => 
  pur Try.prog (pickS t46 t54_1 (.bool false)) fun t55 => 
  gd t55 true (fun k_12 w_38 => k_12 v_a w_38) (fun t57_1 w_39 => 
  gd t55 true (fun k_13 w_40 => k_13 v_b w_40) (fun t58_1 w_41 => 
  gd t55 true (fun k_14 w_42 => callS Try.prog 15 #[t57_1, t58_1] (fun t59 w_43 => k_14 t59 w_43) w_42) (fun t59_1 w_44 => 
  gd t55 true (fun k_15 w_45 => k_15 v_a w_45) (fun t60_1 w_46 => 
  gd t55 true (fun k_16 w_47 => callS Try.prog 10 #[t60_1] (fun t61 w_48 => k_16 t61 w_48) w_47) (fun t61_1 w_49 => 
  gd t55 true (fun k_17 w_50 => k_17 t61_1 w_50) (fun t62_1 w_51 => 
  gd t62_1 true (fun k_18 w_52 => k_18 v_b w_52) (fun t63_1 w_53 => 
  gd t62_1 true (fun k_19 w_54 => callS Try.prog 10 #[t63_1] (fun t64 w_55 => k_19 t64 w_55) w_54) (fun t64_1 w_56 => 
  gd t55 true (fun k_20 w_57 => pur Try.prog (pickS t62_1 t64_1 (.bool false)) fun t65 => k_20 t65 w_57) (fun t65_1 w_58 => 
  gd t55 true (fun k_21 w_59 => k_21 t65_1 w_59) (fun t66_1 w_60 => 
  gd t66_1 true (fun k_22 w_61 => k_22 v_a w_61) (fun t67_1 w_62 => 
  gd t66_1 true (fun k_23 w_63 => k_23 v_b w_63) (fun t68_1 w_64 => 
  gd t66_1 true (fun k_24 w_65 => pur Try.prog (binS .geq 3 false false t67_1 t68_1) fun t69 => k_24 t69 w_65) (fun t69_1 w_66 => 
  gd t55 true (fun k_25 w_67 => pur Try.prog (pickS t66_1 t69_1 (.bool false)) fun t70 => k_25 t70 w_67) (fun t70_1 w_68 => 
  gd t55 true (fun k_26 w_69 => pur Try.prog (binS .eql 4 false false t59_1 t70_1) fun t71 => k_26 t71 w_69) (fun t71_1 w_70 => 
  pur Try.prog (pickS t55 t71_1 (.bool false)) fun t72 => 
  gd t72 true (fun k_27 w_71 => k_27 v_a w_71) (fun t74_1 w_72 => 
  gd t72 true (fun k_28 w_73 => k_28 v_b w_73) (fun t75_1 w_74 => 
  gd t72 true (fun k_29 w_75 => callS Try.prog 16 #[t74_1, t75_1] (fun t76 w_76 => k_29 t76 w_76) w_75) (fun t76_1 w_77 => 
  gd t72 true (fun k_30 w_78 => k_30 v_a w_78) (fun t77_1 w_79 => 
  gd t72 true (fun k_31 w_80 => k_31 v_b w_80) (fun t78_1 w_81 => 
  gd t72 true (fun k_32 w_82 => pur Try.prog (Builtin.max_ #[3, 3] 3 #[t77_1, t78_1]) fun t79 => k_32 t79 w_82) (fun t79_1 w_83 => 
  gd t72 true (fun k_33 w_84 => pur Try.prog (binS .eql 3 false false t76_1 t79_1) fun t80 => k_33 t80 w_84) (fun t80_1 w_85 => 
  pur Try.prog (pickS t72 t80_1 (.bool false)) fun t81 => 
  gd t81 true (fun k_34 w_86 => k_34 v_a w_86) (fun t83_1 w_87 => 
  gd t81 true (fun k_35 w_88 => callS Try.prog 17 #[t83_1] (fun t84 w_89 => k_35 t84 w_89) w_88) (fun t84_1 w_90 => 
  gd t81 true (fun k_36 w_91 => k_36 v_name w_91) (fun t85_1 w_92 => 
  gd t81 true (fun k_37 w_93 => pur Try.prog (binS .eql 9 false false t84_1 t85_1) fun t86 => k_37 t86 w_93) (fun t86_1 w_94 => 
  pur Try.prog (pickS t81 t86_1 (.bool false)) fun t87 => 
  gd t87 true (fun k_38 w_95 => k_38 t26 w_95) (fun t89_1 w_96 => 
  gd t87 true (fun k_39 w_97 => k_39 v_want w_97) (fun t90_1 w_98 => 
  gd t87 true (fun k_40 w_99 => pur Try.prog (binS .eql 3 false false t89_1 t90_1) fun t91 => k_40 t91 w_99) (fun t91_1 w_100 => 
  pur Try.prog (pickS t87 t91_1 (.bool false)) fun t92 => 
  gd t92 true (fun k_41 w_101 => k_41 t27 w_101) (fun t94_1 w_102 => 
  gd t92 true (fun k_42 w_103 => k_42 v_is w_103) (fun t95_1 w_104 => 
  gd t92 true (fun k_43 w_105 => pur Try.prog (binS .eql 4 false false t94_1 t95_1) fun t96 => k_43 t96 w_105) (fun t96_1 w_106 => 
  pur Try.prog (pickS t92 t96_1 (.bool false)) fun t97 => 
  Q t97 w_106) w_104) w_102) w_100) w_98) w_96) w_94) w_92) w_90) w_87) w_85) w_83) w_81) w_79) w_77) w_74) w_72) w_70) w_68) w_66) w_64) w_62) w_60) w_58) w_56) w_53) w_51) w_49) w_46) w_44) w_41) w_39) w_37) w_35) w_32) w_30) w_28) w_25) w_23) w_21) w_19) w_16) w_14) w_11) w_9) w_6)) [(.int .i64 0), (.bool false), (.int .i64 0)] w_5) w_4))
theorem eq4 (v_a v_b v_s : Value) (Q : Value → World → Prop) (w : World) : semF Try.prog 4 [v_a, v_b, v_s] Q w = S4 v_a v_b v_s Q w := by kernel_rfl
theorem ref4 {v_a v_b v_s : Value} {Q : Value → World → Prop} {w : World} (h : S4 v_a v_b v_s Q w) : callS Try.prog 4 #[v_a, v_b, v_s] Q w :=
  callS_of mix (fun a w => Try.call4 a w) (by kernel_rfl) (by rw [eq4]; exact h)
-- commons/commonslaw17.ModeOrder
def S5 (v_a v_b v_c : Value) (Q : Value → World → Prop) (w : World) : Prop :=
 callS Try.prog 12 #[v_a] (fun t11 w_1 => 
 pur Try.prog (Op.unary .not t11) fun t12 => 
 gd t12 false (fun k w_2 => k v_b w_2) (fun t14_1 w_3 => 
 gd t12 false (fun k_1 w_4 => callS Try.prog 12 #[t14_1] (fun t15 w_5 => k_1 t15 w_5) w_4) (fun t15_1 w_6 => 
 gd t12 false (fun k_2 w_7 => pur Try.prog (Op.unary .not t15_1) fun t16 => k_2 t16 w_7) (fun t16_1 w_8 => 
 pur Try.prog (pickS t12 (.bool true) t16_1) fun t17 => 
 gd t17 false (fun k_3 w_9 => k_3 v_c w_9) (fun t19_1 w_10 => 
 gd t17 false (fun k_4 w_11 => callS Try.prog 12 #[t19_1] (fun t20 w_12 => k_4 t20 w_12) w_11) (fun t20_1 w_13 => 
 gd t17 false (fun k_5 w_14 => pur Try.prog (Op.unary .not t20_1) fun t21 => k_5 t21 w_14) (fun t21_1 w_15 => 
 pur Try.prog (pickS t17 (.bool true) t21_1) fun t22 => 
 condS t22
  (callS Try.prog 8 #[] (fun t23 w_16 => 
  gd t23 true (fun k_6 w_17 => k_6 v_a w_17) (fun t25_1 w_18 => 
  gd t23 true (fun k_7 w_19 => callS Try.prog 12 #[t25_1] (fun t26 w_20 => k_7 t26 w_20) w_19) (fun t26_1 w_21 => 
  gd t23 true (fun k_8 w_22 => k_8 t26_1 w_22) (fun t27_1 w_23 => 
  gd t27_1 false (fun k_9 w_24 => k_9 v_a w_24) (fun t28_1 w_25 => 
  gd t27_1 false (fun k_10 w_26 => k_10 v_b w_26) (fun t29_1 w_27 => 
  gd t27_1 false (fun k_11 w_28 => callS Try.prog 13 #[t28_1, t29_1] (fun t30 w_29 => k_11 t30 w_29) w_28) (fun t30_1 w_30 => 
  gd t27_1 false (fun k_12 w_31 => pur Try.prog (Op.unary .not t30_1) fun t31 => k_12 t31 w_31) (fun t31_1 w_32 => 
  gd t27_1 false (fun k_13 w_33 => k_13 t31_1 w_33) (fun t32_1 w_34 => 
  gd t32_1 true (fun k_14 w_35 => k_14 v_a w_35) (fun t33_1 w_36 => 
  gd t32_1 true (fun k_15 w_37 => k_15 v_b w_37) (fun t34_1 w_38 => 
  gd t32_1 true (fun k_16 w_39 => callS Try.prog 15 #[t33_1, t34_1] (fun t35 w_40 => k_16 t35 w_40) w_39) (fun t35_1 w_41 => 
  gd t32_1 true (fun k_17 w_42 => pur Try.prog (Op.unary .not t35_1) fun t36 => k_17 t36 w_42) (fun t36_1 w_43 => 
  gd t27_1 false (fun k_18 w_44 => pur Try.prog (pickS t32_1 t36_1 (.bool false)) fun t37 => k_18 t37 w_44) (fun t37_1 w_45 => 
  gd t23 true (fun k_19 w_46 => pur Try.prog (pickS t27_1 (.bool true) t37_1) fun t38 => k_19 t38 w_46) (fun t38_1 w_47 => 
  pur Try.prog (pickS t23 t38_1 (.bool false)) fun t39 => 
  Q t39 w_47) w_45) w_43) w_41) w_38) w_36) w_34) w_32) w_30) w_27) w_25) w_23) w_21) w_18) w_16) w_15)
  (callS Try.prog 16 #[v_a, v_b] (fun t42 w_48 => 
 callS Try.prog 13 #[v_a, v_b] (fun t45 w_49 => 
 callS Try.prog 13 #[v_b, v_a] (fun t48 w_50 => 
 pur Try.prog (binS .neq 4 false false t45 t48) fun t49 => 
 gd t49 false (fun k_20 w_51 => k_20 t42 w_51) (fun t51_1 w_52 => 
 gd t49 false (fun k_21 w_53 => k_21 v_a w_53) (fun t52_1 w_54 => 
 gd t49 false (fun k_22 w_55 => callS Try.prog 15 #[t51_1, t52_1] (fun t53 w_56 => k_22 t53 w_56) w_55) (fun t53_1 w_57 => 
 gd t49 false (fun k_23 w_58 => pur Try.prog (Op.unary .not t53_1) fun t54 => k_23 t54 w_58) (fun t54_1 w_59 => 
 pur Try.prog (pickS t49 (.bool true) t54_1) fun t55 => 
 gd t55 false (fun k_24 w_60 => k_24 t42 w_60) (fun t57_1 w_61 => 
 gd t55 false (fun k_25 w_62 => k_25 v_b w_62) (fun t58_1 w_63 => 
 gd t55 false (fun k_26 w_64 => callS Try.prog 15 #[t57_1, t58_1] (fun t59 w_65 => k_26 t59 w_65) w_64) (fun t59_1 w_66 => 
 gd t55 false (fun k_27 w_67 => pur Try.prog (Op.unary .not t59_1) fun t60 => k_27 t60 w_67) (fun t60_1 w_68 => 
 pur Try.prog (pickS t55 (.bool true) t60_1) fun t61 => 
 gd t61 false (fun k_28 w_69 => k_28 v_a w_69) (fun t63_1 w_70 => 
 gd t61 false (fun k_29 w_71 => k_29 v_b w_71) (fun t64_1 w_72 => 
 gd t61 false (fun k_30 w_73 => callS Try.prog 15 #[t63_1, t64_1] (fun t65 w_74 => k_30 t65 w_74) w_73) (fun t65_1 w_75 => 
 gd t61 false (fun k_31 w_76 => k_31 t65_1 w_76) (fun t66_1 w_77 => 
 gd t66_1 true (fun k_32 w_78 => k_32 v_a w_78) (fun t67_1 w_79 => 
 gd t66_1 true (fun k_33 w_80 => k_33 v_c w_80) (fun t68_1 w_81 => 
 gd t66_1 true (fun k_34 w_82 => callS Try.prog 13 #[t67_1, t68_1] (fun t69 w_83 => k_34 t69 w_83) w_82) (fun t69_1 w_84 => 
 gd t61 false (fun k_35 w_85 => pur Try.prog (pickS t66_1 t69_1 (.bool false)) fun t70 => k_35 t70 w_85) (fun t70_1 w_86 => 
 gd t61 false (fun k_36 w_87 => k_36 t70_1 w_87) (fun t71_1 w_88 => 
 gd t71_1 true (fun k_37 w_89 => k_37 v_b w_89) (fun t72_1 w_90 => 
 gd t71_1 true (fun k_38 w_91 => k_38 v_c w_91) (fun t73_1 w_92 => 
 gd t71_1 true (fun k_39 w_93 => callS Try.prog 13 #[t72_1, t73_1] (fun t74 w_94 => k_39 t74 w_94) w_93) (fun t74_1 w_95 => 
 gd t71_1 true (fun k_40 w_96 => pur Try.prog (Op.unary .not t74_1) fun t75 => k_40 t75 w_96) (fun t75_1 w_97 => 
 gd t61 false (fun k_41 w_98 => pur Try.prog (pickS t71_1 t75_1 (.bool false)) fun t76 => k_41 t76 w_98) (fun t76_1 w_99 => 
 pur Try.prog (pickS t61 (.bool true) t76_1) fun t77 => 
 condS t77
  (Q (.bool false) w_99)
  (callS Try.prog 17 #[v_a] (fun t80 w_100 => 
 callS Try.prog 11 #[t80] (fun t81 w_101 => 
 pur Try.prog (Instr.extract t81 0) fun t82 => 
 pur Try.prog (Instr.extract t81 1) fun t83 => 
 callS Try.prog 8 #[] (fun t84 w_102 => 
 gd t84 true (fun k_42 w_103 => k_42 t83 w_103) (fun t86_1 w_104 => 
 pur Try.prog (pickS t84 t86_1 (.bool false)) fun t87 => 
 gd t87 true (fun k_43 w_105 => k_43 t82 w_105) (fun t89_1 w_106 => 
 gd t87 true (fun k_44 w_107 => k_44 v_a w_107) (fun t90_1 w_108 => 
 gd t87 true (fun k_45 w_109 => pur Try.prog (binS .eql 3 false false t89_1 t90_1) fun t91 => k_45 t91 w_109) (fun t91_1 w_110 => 
 pur Try.prog (pickS t87 t91_1 (.bool false)) fun t92 => 
 gd t92 true (fun k_46 w_111 => k_46 t42 w_111) (fun t94_1 w_112 => 
 gd t92 true (fun k_47 w_113 => callS Try.prog 10 #[t94_1] (fun t95 w_114 => k_47 t95 w_114) w_113) (fun t95_1 w_115 => 
 pur Try.prog (pickS t92 t95_1 (.bool false)) fun t96 => 
 Q t96 w_115) w_112) w_110) w_108) w_106) w_104) w_102) w_101) w_100) w_99)) w_97) w_95) w_92) w_90) w_88) w_86) w_84) w_81) w_79) w_77) w_75) w_72) w_70) w_68) w_66) w_63) w_61) w_59) w_57) w_54) w_52) w_50) w_49) w_48) w_15)) w_13) w_10) w_8) w_6) w_3) w_1) w
theorem eq5 (v_a v_b v_c : Value) (Q : Value → World → Prop) (w : World) : semF Try.prog 5 [v_a, v_b, v_c] Q w = S5 v_a v_b v_c Q w := by kernel_rfl
theorem ref5 {v_a v_b v_c : Value} {Q : Value → World → Prop} {w : World} (h : S5 v_a v_b v_c Q w) : callS Try.prog 5 #[v_a, v_b, v_c] Q w :=
  callS_of mix (fun a w => Try.call5 a w) (by kernel_rfl) (by rw [eq5]; exact h)
-- commons/commonslaw17.ModeNone
def S6 (v_l : Value) (Q : Value → World → Prop) (w : World) : Prop :=
 pur Try.prog (Builtin.len_ #[22] 3 #[v_l]) fun t5 => 
 pur Try.prog (binS .gtr 3 false true t5 (.int .i64 40)) fun t6 => 
 condS t6
  (callS Try.prog 8 #[] (fun t7 w_1 => 
  Q t7 w_1) w)
  (callS Try.prog 9 #[v_l] (fun t9 w_2 => 
 callS Try.prog 8 #[] (fun t10 w_3 => 
 gd t10 true (fun k w_4 => k v_l w_4) (fun t12_1 w_5 => 
 gd t10 true (fun k_1 w_6 => callS Try.prog 19 #[(.pointer none), t12_1] (fun t13 w_7 => k_1 t13 w_7) w_6) (fun t13_1 w_8 => 
 gd t10 true (fun k_2 w_9 => k_2 t9 w_9) (fun t14_1 w_10 => 
 gd t10 true (fun k_3 w_11 => callS Try.prog 18 #[t13_1, t14_1] (fun t15 w_12 => k_3 t15 w_12) w_11) (fun t15_1 w_13 => 
 pur Try.prog (pickS t10 t15_1 (.bool false)) fun t16 => 
 gd t16 true (fun k_4 w_14 => k_4 v_l w_14) (fun t18_1 w_15 => 
 gd t16 true (fun k_5 w_16 => callS Try.prog 20 #[(.pointer none), t18_1] (fun t19 w_17 => k_5 t19 w_17) w_16) (fun t19_1 w_18 => 
 gd t16 true (fun k_6 w_19 => k_6 t9 w_19) (fun t20_1 w_20 => 
 gd t16 true (fun k_7 w_21 => pur Try.prog (Builtin.len_ #[22] 3 #[t20_1]) fun t21 => k_7 t21 w_21) (fun t21_1 w_22 => 
 gd t16 true (fun k_8 w_23 => pur Try.prog (binS .eql 3 false true t21_1 (.int .i64 0)) fun t22 => k_8 t22 w_23) (fun t22_1 w_24 => 
 gd t16 true (fun k_9 w_25 => pur Try.prog (binS .eql 4 false false t19_1 t22_1) fun t23 => k_9 t23 w_25) (fun t23_1 w_26 => 
 pur Try.prog (pickS t16 t23_1 (.bool false)) fun t24 => 
 Q t24 w_26) w_24) w_22) w_20) w_18) w_15) w_13) w_10) w_8) w_5) w_3) w_2) w)
theorem eq6 (v_l : Value) (Q : Value → World → Prop) (w : World) : semF Try.prog 6 [v_l] Q w = S6 v_l Q w := by kernel_rfl
theorem ref6 {v_l : Value} {Q : Value → World → Prop} {w : World} (h : S6 v_l Q w) : callS Try.prog 6 #[v_l] Q w :=
  callS_of mix (fun a w => Try.call6 a w) (by kernel_rfl) (by rw [eq6]; exact h)
-- commons/commonslaw17.ModeGives
def S7 (v_held v_l : Value) (Q : Value → World → Prop) (w : World) : Prop :=
 pur Try.prog (Builtin.len_ #[22] 3 #[v_held]) fun t16 => 
 pur Try.prog (binS .gtr 3 false true t16 (.int .i64 30)) fun t17 => 
 gd t17 false (fun k w_1 => k v_l w_1) (fun t19_1 w_2 => 
 gd t17 false (fun k_1 w_3 => pur Try.prog (Builtin.len_ #[22] 3 #[t19_1]) fun t20 => k_1 t20 w_3) (fun t20_1 w_4 => 
 gd t17 false (fun k_2 w_5 => pur Try.prog (binS .gtr 3 false true t20_1 (.int .i64 30)) fun t21 => k_2 t21 w_5) (fun t21_1 w_6 => 
 pur Try.prog (pickS t17 (.bool true) t21_1) fun t22 => 
 condS t22
  (callS Try.prog 8 #[] (fun t23 w_7 => 
  Q t23 w_7) w_6)
  (callS Try.prog 21 #[v_held] (fun t26 w_8 => 
 pur Try.prog (Instr.extract t26 0) fun t27 => 
 pur Try.prog (Instr.extract t26 1) fun _ => 
 callS Try.prog 19 #[t27, v_l] (fun t31 w_9 => 
 lp 1 (fun J => fun v_i w_10 => ∀ _j : Fr, 
  pur Try.prog (Builtin.len_ #[22] 3 #[t31]) fun t34 => 
  pur Try.prog (binS .lss 3 false false v_i t34) fun t35 => 
  condS t35
   (pur Try.prog (Instr.indexAt 22 t31 v_i) fun t41 => 
  pur Try.prog (Instr.fieldAt 27 t41 0) fun t42 => 
  rd Try.prog (Instr.loadAt 25 t42) (fun t43 => 
  pur Try.prog (Instr.indexAt 22 t31 v_i) fun t46 => 
  pur Try.prog (Instr.fieldAt 27 t46 1) fun t47 => 
  rd Try.prog (Instr.loadAt 3 t47) (fun t48 => 
  callS Try.prog 22 #[t27, t43, t48] (fun _ w_11 => 
  pur Try.prog (binS .add 3 false true v_i (.int .i64 1)) fun t51 => 
  lp 1 (fun J_1 => fun v_k w_12 => ∀ _j : Fr, 
   pur Try.prog (Builtin.len_ #[22] 3 #[t31]) fun t54 => 
   pur Try.prog (binS .lss 3 false false v_k t54) fun t55 => 
   condS t55
    (jn 1 (fun J_2 => 
    ∃ S : World → Prop, S (World.drew w_12) ∧ 
   pur Try.prog (Instr.indexAt 22 t31 v_i) fun t61 => 
    pur Try.prog (Instr.fieldAt 27 t61 0) fun t62 => 
    hld Try.prog S (Instr.loadAt 25 t62) fun t63 => 
    pur Try.prog (Instr.indexAt 22 t31 v_k) fun t66 => 
    pur Try.prog (Instr.fieldAt 27 t66 0) fun t67 => 
    hld Try.prog S (Instr.loadAt 25 t67) fun t68 => 
    (callS Try.prog 23 #[t63, t68] (fun t69 w_13 => S w_13 ∧ 
    pur Try.prog (Instr.extract t69 0) fun t70 => 
    pur Try.prog (Instr.extract t69 1) fun t71 => 
    act Try.prog (Instr.alloc 25 true (.tuple #[])) (fun t10 w_14 => S w_14 ∧ 
    act Try.prog (thenU (Instr.storeAt 25 t10 t70)) (fun _ w_15 => S w_15 ∧ 
    J_2 t71 w_15) w_14) w_13) (World.drew w_12)
    ) ∧ (act Try.prog (Instr.alloc 25 true (.tuple #[])) (fun t10_1 w_16 => S w_16 ∧ 
    callS Try.prog 23 #[t63, t68] (fun t69_1 w_17 => S w_17 ∧ 
    pur Try.prog (Instr.extract t69_1 0) fun t70_1 => 
    pur Try.prog (Instr.extract t69_1 1) fun t71_1 => 
    act Try.prog (thenU (Instr.storeAt 25 t10_1 t70_1)) (fun _ w_18 => S w_18 ∧ 
    J_2 t71_1 w_18) w_17) w_16) (World.drew w_12)))
   (fun v_meets w_19 => ∀ _j : Fr, 
    condS v_meets
    (Q (.bool false) w_19)
    (pur Try.prog (binS .add 3 false true v_k (.int .i64 1)) fun t57 => 
   J_1 t57 w_19)))
    (pur Try.prog (binS .add 3 false true v_i (.int .i64 1)) fun t37 => 
  J t37 w_12)) [t51] w_11) (World.drew w_10)) (World.drew w_10)) (World.drew w_10))
   (callS Try.prog 24 #[v_l] (fun t74 w_20 => 
 lp 1 (fun J_3 => fun v_i_1 w_21 => ∀ _j : Fr, 
  pur Try.prog (Builtin.len_ #[22] 3 #[t31]) fun t77 => 
  pur Try.prog (binS .lss 3 false false v_i_1 t77) fun t78 => 
  condS t78
   (pur Try.prog (Instr.indexAt 22 t31 v_i_1) fun t84 => 
  pur Try.prog (Instr.fieldAt 27 t84 0) fun t85 => 
  rd Try.prog (Instr.loadAt 25 t85) (fun t86 => 
  callS Try.prog 25 #[t74, t86] (fun t87 w_22 => 
  pur Try.prog (Builtin.len_ #[45] 3 #[t87]) fun t89 => 
  pur Try.prog (binS .neq 3 false true t89 (.int .i64 1)) fun t90 => 
  gd t90 false (fun k_3 w_23 => k_3 t87 w_23) (fun t92_1 w_24 => 
  gd t90 false (fun k_4 w_25 => pur Try.prog (Instr.indexAt 45 t92_1 (.int .i64 0)) fun t93 => k_4 t93 w_25) (fun t93_1 w_26 => 
  gd t90 false (fun k_5 w_27 => pur Try.prog (Instr.fieldAt 54 t93_1 0) fun t94 => k_5 t94 w_27) (fun t94_1 w_28 => 
  gd t90 false (fun k_6 w_29 => rd Try.prog (Instr.loadAt 25 t94_1) (fun t95 => k_6 t95 w_29) w_29) (fun t95_1 w_30 => 
  gd t90 false (fun k_7 w_31 => k_7 t31 w_31) (fun t96_1 w_32 => 
  gd t90 false (fun k_8 w_33 => k_8 v_i_1 w_33) (fun t97_1 w_34 => 
  gd t90 false (fun k_9 w_35 => pur Try.prog (Instr.indexAt 22 t96_1 t97_1) fun t98 => k_9 t98 w_35) (fun t98_1 w_36 => 
  gd t90 false (fun k_10 w_37 => pur Try.prog (Instr.fieldAt 27 t98_1 0) fun t99 => k_10 t99 w_37) (fun t99_1 w_38 => 
  gd t90 false (fun k_11 w_39 => rd Try.prog (Instr.loadAt 25 t99_1) (fun t100 => k_11 t100 w_39) w_39) (fun t100_1 w_40 => 
  gd t90 false (fun k_12 w_41 => rd Try.prog (binS .neq 25 false false t95_1 t100_1) (fun t101 => k_12 t101 w_41) w_41) (fun t101_1 w_42 => 
  pur Try.prog (pickS t90 (.bool true) t101_1) fun t102 => 
  gd t102 false (fun k_13 w_43 => k_13 t87 w_43) (fun t104_1 w_44 => 
  gd t102 false (fun k_14 w_45 => pur Try.prog (Instr.indexAt 45 t104_1 (.int .i64 0)) fun t105 => k_14 t105 w_45) (fun t105_1 w_46 => 
  gd t102 false (fun k_15 w_47 => pur Try.prog (Instr.fieldAt 54 t105_1 1) fun t106 => k_15 t106 w_47) (fun t106_1 w_48 => 
  gd t102 false (fun k_16 w_49 => rd Try.prog (Instr.loadAt 3 t106_1) (fun t107 => k_16 t107 w_49) w_49) (fun t107_1 w_50 => 
  gd t102 false (fun k_17 w_51 => k_17 t31 w_51) (fun t108_1 w_52 => 
  gd t102 false (fun k_18 w_53 => k_18 v_i_1 w_53) (fun t109_1 w_54 => 
  gd t102 false (fun k_19 w_55 => pur Try.prog (Instr.indexAt 22 t108_1 t109_1) fun t110 => k_19 t110 w_55) (fun t110_1 w_56 => 
  gd t102 false (fun k_20 w_57 => pur Try.prog (Instr.fieldAt 27 t110_1 1) fun t111 => k_20 t111 w_57) (fun t111_1 w_58 => 
  gd t102 false (fun k_21 w_59 => rd Try.prog (Instr.loadAt 3 t111_1) (fun t112 => k_21 t112 w_59) w_59) (fun t112_1 w_60 => 
  gd t102 false (fun k_22 w_61 => pur Try.prog (binS .neq 3 false false t107_1 t112_1) fun t113 => k_22 t113 w_61) (fun t113_1 w_62 => 
  pur Try.prog (pickS t102 (.bool true) t113_1) fun t114 => 
  condS t114
   (Q (.bool false) w_62)
   (pur Try.prog (binS .add 3 false true v_i_1 (.int .i64 1)) fun t80 => 
  J_3 t80 w_62)) w_60) w_58) w_56) w_54) w_52) w_50) w_48) w_46) w_44) w_42) w_40) w_38) w_36) w_34) w_32) w_30) w_28) w_26) w_24) (World.drew w_22)) w_21) w_21)
   (callS Try.prog 8 #[] (fun t115 w_63 => 
 gd t115 true (fun k_23 w_64 => k_23 t27 w_64) (fun t117_1 w_65 => 
 gd t115 true (fun k_24 w_66 => k_24 v_l w_66) (fun t118_1 w_67 => 
 gd t115 true (fun k_25 w_68 => callS Try.prog 20 #[t117_1, t118_1] (fun t119 w_69 => k_25 t119 w_69) w_68) (fun t119_1 w_70 => 
 pur Try.prog (pickS t115 t119_1 (.bool false)) fun t120 => 
 gd t120 true (fun k_26 w_71 => k_26 t27 w_71) (fun t122_1 w_72 => 
 gd t120 true (fun k_27 w_73 => k_27 v_l w_73) (fun t123_1 w_74 => 
 gd t120 true (fun k_28 w_75 => callS Try.prog 19 #[t122_1, t123_1] (fun t124 w_76 => k_28 t124 w_76) w_75) (fun t124_1 w_77 => 
 gd t120 true (fun k_29 w_78 => pur Try.prog (Builtin.len_ #[22] 3 #[t124_1]) fun t125 => k_29 t125 w_78) (fun t125_1 w_79 => 
 gd t120 true (fun k_30 w_80 => pur Try.prog (binS .eql 3 false true t125_1 (.int .i64 0)) fun t126 => k_30 t126 w_80) (fun t126_1 w_81 => 
 pur Try.prog (pickS t120 t126_1 (.bool false)) fun t127 => 
 Q t127 w_81) w_79) w_77) w_74) w_72) w_70) w_67) w_65) w_63) w_21)) [(.int .i64 0)] w_20) w_10)) [(.int .i64 0)] w_9) w_8) w_6)) w_4) w_2) w
theorem eq7 (v_held v_l : Value) (Q : Value → World → Prop) (w : World) : semF Try.prog 7 [v_held, v_l] Q w = S7 v_held v_l Q w := by kernel_rfl
theorem ref7 {v_held v_l : Value} {Q : Value → World → Prop} {w : World} (h : S7 v_held v_l Q w) : callS Try.prog 7 #[v_held, v_l] Q w :=
  callS_of mix (fun a w => Try.call7 a w) (by kernel_rfl) (by rw [eq7]; exact h)
-- commons/commonslaw17.alive
def S8 (Q : Value → World → Prop) (w : World) : Prop :=
 pur Try.prog (Instr.build 25 #[(1, (.int .i64 5))]) fun t4 => 
 pur Try.prog (Instr.build 27 #[(0, t4), (1, (.int .i64 1))]) fun t5 => 
 pur Try.prog (Instr.build 25 #[(0, (.int .i64 3)), (1, (.int .i64 9))]) fun t6 => 
 pur Try.prog (Instr.build 27 #[(0, t6), (1, (.int .i64 2))]) fun t7 => 
 act Try.prog (Instr.buildSlice 22 2 #[(0, t5), (1, t7)]) (fun t8 w_1 => 
 callS Try.prog 9 #[t8] (fun t9 w_2 => 
 callS Try.prog 11 #[(.string ⟨#[115, 104, 97, 114, 101, 100]⟩)] (fun t11 w_3 => 
 pur Try.prog (Instr.extract t11 0) fun t12 => 
 pur Try.prog (Instr.extract t11 1) fun t13 => 
 pur Try.prog (Builtin.len_ #[22] 3 #[t9]) fun t15 => 
 pur Try.prog (binS .eql 3 false true t15 (.int .i64 2)) fun t16 => 
 gd t16 true (fun k w_4 => k t9 w_4) (fun t18_1 w_5 => 
 gd t16 true (fun k_1 w_6 => pur Try.prog (Instr.indexAt 22 t18_1 (.int .i64 1)) fun t19 => k_1 t19 w_6) (fun t19_1 w_7 => 
 gd t16 true (fun k_2 w_8 => rd Try.prog (Instr.loadAt 27 t19_1) (fun t20 => k_2 t20 w_8) w_8) (fun t20_1 w_9 => 
 gd t16 true (fun k_3 w_10 => pur Try.prog (Instr.build 25 #[(0, (.int .i64 3)), (1, (.int .i64 9))]) fun t21 => k_3 t21 w_10) (fun t21_1 w_11 => 
 gd t16 true (fun k_4 w_12 => pur Try.prog (Instr.build 27 #[(0, t21_1), (1, (.int .i64 2))]) fun t22 => k_4 t22 w_12) (fun t22_1 w_13 => 
 gd t16 true (fun k_5 w_14 => rd Try.prog (binS .eql 27 false false t20_1 t22_1) (fun t23 => k_5 t23 w_14) w_14) (fun t23_1 w_15 => 
 pur Try.prog (pickS t16 t23_1 (.bool false)) fun t24 => 
 gd t24 true (fun k_6 w_16 => callS Try.prog 13 #[(.int .i64 1), (.int .i64 1)] (fun t26 w_17 => k_6 t26 w_17) w_16) (fun t26_1 w_18 => 
 pur Try.prog (pickS t24 t26_1 (.bool false)) fun t27 => 
 gd t27 true (fun k_7 w_19 => callS Try.prog 13 #[(.int .i64 1), (.int .i64 2)] (fun t29 w_20 => k_7 t29 w_20) w_19) (fun t29_1 w_21 => 
 gd t27 true (fun k_8 w_22 => pur Try.prog (Op.unary .not t29_1) fun t30 => k_8 t30 w_22) (fun t30_1 w_23 => 
 pur Try.prog (pickS t27 t30_1 (.bool false)) fun t31 => 
 gd t31 true (fun k_9 w_24 => k_9 t13 w_24) (fun t33_1 w_25 => 
 pur Try.prog (pickS t31 t33_1 (.bool false)) fun t34 => 
 gd t34 true (fun k_10 w_26 => k_10 t12 w_26) (fun t36_1 w_27 => 
 gd t34 true (fun k_11 w_28 => pur Try.prog (binS .eql 3 false true t36_1 (.int .i64 1)) fun t37 => k_11 t37 w_28) (fun t37_1 w_29 => 
 pur Try.prog (pickS t34 t37_1 (.bool false)) fun t38 => 
 gd t38 true (fun k_12 w_30 => callS Try.prog 17 #[(.int .i64 2)] (fun t40 w_31 => k_12 t40 w_31) w_30) (fun t40_1 w_32 => 
 gd t38 true (fun k_13 w_33 => pur Try.prog (binS .eql 9 false true t40_1 (.string ⟨#[101, 120, 99, 108, 117, 115, 105, 118, 101]⟩)) fun t41 => k_13 t41 w_33) (fun t41_1 w_34 => 
 pur Try.prog (pickS t38 t41_1 (.bool false)) fun t42 => 
 Q t42 w_34) w_32) w_29) w_27) w_25) w_23) w_21) w_18) w_15) w_13) w_11) w_9) w_7) w_5) w_3) w_2) w_1) w
theorem eq8 (Q : Value → World → Prop) (w : World) : semF Try.prog 8 [] Q w = S8 Q w := by kernel_rfl
theorem ref8 {Q : Value → World → Prop} {w : World} (h : S8 Q w) : callS Try.prog 8 #[] Q w :=
  callS_of mix (fun a w => Try.call8 a w) (by kernel_rfl) (by rw [eq8]; exact h)
-- commons/mode.Norm
def S9 (v_l : Value) (Q : Value → World → Prop) (w : World) : Prop :=
 callS Try.prog 27 #[v_l] (fun t4 w_1 => 
 callS Try.prog 26 #[t4] (fun t5 w_2 => 
 Q t5 w_2) w_1) w
theorem eq9 (v_l : Value) (Q : Value → World → Prop) (w : World) : semF Try.prog 9 [v_l] Q w = S9 v_l Q w := by kernel_rfl
theorem ref9 {v_l : Value} {Q : Value → World → Prop} {w : World} (h : S9 v_l Q w) : callS Try.prog 9 #[v_l] Q w :=
  callS_of mix (fun a w => Try.call9 a w) (by kernel_rfl) (by rw [eq9]; exact h)
-- commons/commonsref14.Mode
def S10 (v_m : Value) (Q : Value → World → Prop) (w : World) : Prop :=
 pur Try.prog (binS .geq 3 false true v_m (.int .i64 0)) fun t4 => 
 gd t4 true (fun k w_1 => k v_m w_1) (fun t6_1 w_2 => 
 gd t4 true (fun k_1 w_3 => pur Try.prog (binS .leq 3 false true t6_1 (.int .i64 2)) fun t7 => k_1 t7 w_3) (fun t7_1 w_4 => 
 pur Try.prog (pickS t4 t7_1 (.bool false)) fun t8 => 
 Q t8 w_4) w_2) w
theorem eq10 (v_m : Value) (Q : Value → World → Prop) (w : World) : semF Try.prog 10 [v_m] Q w = S10 v_m Q w := by kernel_rfl
theorem ref10 {v_m : Value} {Q : Value → World → Prop} {w : World} (h : S10 v_m Q w) : callS Try.prog 10 #[v_m] Q w :=
  callS_of mix (fun a w => Try.call10 a w) (by kernel_rfl) (by rw [eq10]; exact h)
-- commons/mode.Parse
def S11 (v_s : Value) (Q : Value → World → Prop) (w : World) : Prop :=
 lp 1 (fun J => fun v_m w_1 => ∀ _j : Fr, 
  pur Try.prog (binS .leq 3 false true v_m (.int .i64 2)) fun t6 => 
  condS t6
   (callS Try.prog 17 #[v_m] (fun t10 w_2 => 
  pur Try.prog (binS .eql 9 false false t10 v_s) fun t12 => 
  condS t12
   (Q (.tuple #[v_m, (.bool true)]) w_2)
   (pur Try.prog (binS .add 3 false true v_m (.int .i64 1)) fun t8 => 
  J t8 w_2)) w_1)
   (Q (.tuple #[(.int .i64 0), (.bool false)]) w_1)) [(.int .i64 0)] w
theorem eq11 (v_s : Value) (Q : Value → World → Prop) (w : World) : semF Try.prog 11 [v_s] Q w = S11 v_s Q w := by kernel_rfl
theorem ref11 {v_s : Value} {Q : Value → World → Prop} {w : World} (h : S11 v_s Q w) : callS Try.prog 11 #[v_s] Q w :=
  callS_of mix (fun a w => Try.call11 a w) (by kernel_rfl) (by rw [eq11]; exact h)
-- commons/mode.Valid
def S12 (v_m : Value) (Q : Value → World → Prop) (w : World) : Prop :=
 pur Try.prog (binS .geq 3 false true v_m (.int .i64 0)) fun t4 => 
 gd t4 true (fun k w_1 => k v_m w_1) (fun t6_1 w_2 => 
 gd t4 true (fun k_1 w_3 => pur Try.prog (binS .leq 3 false true t6_1 (.int .i64 2)) fun t7 => k_1 t7 w_3) (fun t7_1 w_4 => 
 pur Try.prog (pickS t4 t7_1 (.bool false)) fun t8 => 
 Q t8 w_4) w_2) w
theorem eq12 (v_m : Value) (Q : Value → World → Prop) (w : World) : semF Try.prog 12 [v_m] Q w = S12 v_m Q w := by kernel_rfl
theorem ref12 {v_m : Value} {Q : Value → World → Prop} {w : World} (h : S12 v_m Q w) : callS Try.prog 12 #[v_m] Q w :=
  callS_of mix (fun a w => Try.call12 a w) (by kernel_rfl) (by rw [eq12]; exact h)
-- commons/mode.Fit
def S13 (v_a v_b : Value) (Q : Value → World → Prop) (w : World) : Prop :=
 callS Try.prog 12 #[v_a] (fun t6 w_1 => 
 pur Try.prog (Op.unary .not t6) fun t7 => 
 gd t7 false (fun k w_2 => k v_b w_2) (fun t9_1 w_3 => 
 gd t7 false (fun k_1 w_4 => callS Try.prog 12 #[t9_1] (fun t10 w_5 => k_1 t10 w_5) w_4) (fun t10_1 w_6 => 
 gd t7 false (fun k_2 w_7 => pur Try.prog (Op.unary .not t10_1) fun t11 => k_2 t11 w_7) (fun t11_1 w_8 => 
 pur Try.prog (pickS t7 (.bool true) t11_1) fun t12 => 
 condS t12
  (Q (.bool false) w_8)
  (pur Try.prog (binS .eql 3 false true v_a (.int .i64 0)) fun t14 => 
 gd t14 false (fun k_3 w_9 => k_3 v_b w_9) (fun t16_1 w_10 => 
 gd t14 false (fun k_4 w_11 => pur Try.prog (binS .eql 3 false true t16_1 (.int .i64 0)) fun t17 => k_4 t17 w_11) (fun t17_1 w_12 => 
 pur Try.prog (pickS t14 (.bool true) t17_1) fun t18 => 
 gd t18 false (fun k_5 w_13 => k_5 v_a w_13) (fun t20_1 w_14 => 
 gd t18 false (fun k_6 w_15 => pur Try.prog (binS .eql 3 false true t20_1 (.int .i64 1)) fun t21 => k_6 t21 w_15) (fun t21_1 w_16 => 
 gd t18 false (fun k_7 w_17 => k_7 t21_1 w_17) (fun t22_1 w_18 => 
 gd t22_1 true (fun k_8 w_19 => k_8 v_b w_19) (fun t23_1 w_20 => 
 gd t22_1 true (fun k_9 w_21 => pur Try.prog (binS .eql 3 false true t23_1 (.int .i64 1)) fun t24 => k_9 t24 w_21) (fun t24_1 w_22 => 
 gd t18 false (fun k_10 w_23 => pur Try.prog (pickS t22_1 t24_1 (.bool false)) fun t25 => k_10 t25 w_23) (fun t25_1 w_24 => 
 pur Try.prog (pickS t18 (.bool true) t25_1) fun t26 => 
 Q t26 w_24) w_22) w_20) w_18) w_16) w_14) w_12) w_10) w_8)) w_6) w_3) w_1) w
theorem eq13 (v_a v_b : Value) (Q : Value → World → Prop) (w : World) : semF Try.prog 13 [v_a, v_b] Q w = S13 v_a v_b Q w := by kernel_rfl
theorem ref13 {v_a v_b : Value} {Q : Value → World → Prop} {w : World} (h : S13 v_a v_b Q w) : callS Try.prog 13 #[v_a, v_b] Q w :=
  callS_of mix (fun a w => Try.call13 a w) (by kernel_rfl) (by rw [eq13]; exact h)
-- commons/commonsref14.Fit
def S14 (v_a v_b : Value) (Q : Value → World → Prop) (w : World) : Prop :=
 callS Try.prog 10 #[v_a] (fun t6 w_1 => 
 gd t6 true (fun k w_2 => k v_b w_2) (fun t8_1 w_3 => 
 gd t6 true (fun k_1 w_4 => callS Try.prog 10 #[t8_1] (fun t9 w_5 => k_1 t9 w_5) w_4) (fun t9_1 w_6 => 
 pur Try.prog (pickS t6 t9_1 (.bool false)) fun t10 => 
 gd t10 true (fun k_2 w_7 => k_2 v_a w_7) (fun t12_1 w_8 => 
 gd t10 true (fun k_3 w_9 => pur Try.prog (binS .eql 3 false true t12_1 (.int .i64 0)) fun t13 => k_3 t13 w_9) (fun t13_1 w_10 => 
 gd t10 true (fun k_4 w_11 => k_4 t13_1 w_11) (fun t14_1 w_12 => 
 gd t14_1 false (fun k_5 w_13 => k_5 v_b w_13) (fun t15_1 w_14 => 
 gd t14_1 false (fun k_6 w_15 => pur Try.prog (binS .eql 3 false true t15_1 (.int .i64 0)) fun t16 => k_6 t16 w_15) (fun t16_1 w_16 => 
 gd t10 true (fun k_7 w_17 => pur Try.prog (pickS t14_1 (.bool true) t16_1) fun t17 => k_7 t17 w_17) (fun t17_1 w_18 => 
 gd t10 true (fun k_8 w_19 => k_8 t17_1 w_19) (fun t18_1 w_20 => 
 gd t18_1 false (fun k_9 w_21 => k_9 v_a w_21) (fun t19_1 w_22 => 
 gd t18_1 false (fun k_10 w_23 => pur Try.prog (binS .eql 3 false true t19_1 (.int .i64 1)) fun t20 => k_10 t20 w_23) (fun t20_1 w_24 => 
 gd t18_1 false (fun k_11 w_25 => k_11 t20_1 w_25) (fun t21_1 w_26 => 
 gd t21_1 true (fun k_12 w_27 => k_12 v_b w_27) (fun t22_1 w_28 => 
 gd t21_1 true (fun k_13 w_29 => pur Try.prog (binS .eql 3 false true t22_1 (.int .i64 1)) fun t23 => k_13 t23 w_29) (fun t23_1 w_30 => 
 gd t18_1 false (fun k_14 w_31 => pur Try.prog (pickS t21_1 t23_1 (.bool false)) fun t24 => k_14 t24 w_31) (fun t24_1 w_32 => 
 gd t10 true (fun k_15 w_33 => pur Try.prog (pickS t18_1 (.bool true) t24_1) fun t25 => k_15 t25 w_33) (fun t25_1 w_34 => 
 pur Try.prog (pickS t10 t25_1 (.bool false)) fun t26 => 
 Q t26 w_34) w_32) w_30) w_28) w_26) w_24) w_22) w_20) w_18) w_16) w_14) w_12) w_10) w_8) w_6) w_3) w_1) w
theorem eq14 (v_a v_b : Value) (Q : Value → World → Prop) (w : World) : semF Try.prog 14 [v_a, v_b] Q w = S14 v_a v_b Q w := by kernel_rfl
theorem ref14 {v_a v_b : Value} {Q : Value → World → Prop} {w : World} (h : S14 v_a v_b Q w) : callS Try.prog 14 #[v_a, v_b] Q w :=
  callS_of mix (fun a w => Try.call14 a w) (by kernel_rfl) (by rw [eq14]; exact h)
-- commons/mode.Covers
def S15 (v_a v_b : Value) (Q : Value → World → Prop) (w : World) : Prop :=
 callS Try.prog 12 #[v_a] (fun t6 w_1 => 
 gd t6 true (fun k w_2 => k v_b w_2) (fun t8_1 w_3 => 
 gd t6 true (fun k_1 w_4 => callS Try.prog 12 #[t8_1] (fun t9 w_5 => k_1 t9 w_5) w_4) (fun t9_1 w_6 => 
 pur Try.prog (pickS t6 t9_1 (.bool false)) fun t10 => 
 gd t10 true (fun k_2 w_7 => k_2 v_b w_7) (fun t12_1 w_8 => 
 gd t10 true (fun k_3 w_9 => k_3 v_a w_9) (fun t13_1 w_10 => 
 gd t10 true (fun k_4 w_11 => pur Try.prog (binS .leq 3 false false t12_1 t13_1) fun t14 => k_4 t14 w_11) (fun t14_1 w_12 => 
 pur Try.prog (pickS t10 t14_1 (.bool false)) fun t15 => 
 Q t15 w_12) w_10) w_8) w_6) w_3) w_1) w
theorem eq15 (v_a v_b : Value) (Q : Value → World → Prop) (w : World) : semF Try.prog 15 [v_a, v_b] Q w = S15 v_a v_b Q w := by kernel_rfl
theorem ref15 {v_a v_b : Value} {Q : Value → World → Prop} {w : World} (h : S15 v_a v_b Q w) : callS Try.prog 15 #[v_a, v_b] Q w :=
  callS_of mix (fun a w => Try.call15 a w) (by kernel_rfl) (by rw [eq15]; exact h)
-- commons/mode.Join
def S16 (v_a v_b : Value) (Q : Value → World → Prop) (w : World) : Prop :=
 pur Try.prog (Builtin.max_ #[3, 3] 3 #[v_a, v_b]) fun t7 => 
 Q t7 w
theorem eq16 (v_a v_b : Value) (Q : Value → World → Prop) (w : World) : semF Try.prog 16 [v_a, v_b] Q w = S16 v_a v_b Q w := by kernel_rfl
theorem ref16 {v_a v_b : Value} {Q : Value → World → Prop} {w : World} (h : S16 v_a v_b Q w) : callS Try.prog 16 #[v_a, v_b] Q w :=
  callS_of mix (fun a w => Try.call16 a w) (by kernel_rfl) (by rw [eq16]; exact h)
-- commons/mode.Name
def S17 (v_m : Value) (Q : Value → World → Prop) (w : World) : Prop :=
 pur Try.prog (binS .eql 3 false true v_m (.int .i64 0)) fun t5 => 
 condS t5
  (Q (.string ⟨#[110, 111, 110, 101]⟩) w)
  (pur Try.prog (binS .eql 3 false true v_m (.int .i64 1)) fun t7 => 
  condS t7
   (Q (.string ⟨#[115, 104, 97, 114, 101, 100]⟩) w)
   (pur Try.prog (binS .eql 3 false true v_m (.int .i64 2)) fun t9 => 
   condS t9
    (Q (.string ⟨#[101, 120, 99, 108, 117, 115, 105, 118, 101]⟩) w)
    (Q (.string ⟨#[]⟩) w)))
theorem eq17 (v_m : Value) (Q : Value → World → Prop) (w : World) : semF Try.prog 17 [v_m] Q w = S17 v_m Q w := by kernel_rfl
theorem ref17 {v_m : Value} {Q : Value → World → Prop} {w : World} (h : S17 v_m Q w) : callS Try.prog 17 #[v_m] Q w :=
  callS_of mix (fun a w => Try.call17 a w) (by kernel_rfl) (by rw [eq17]; exact h)
-- commons/commonsbook.SameLocks
def S18 (v_a v_b : Value) (Q : Value → World → Prop) (w : World) : Prop :=
 pur Try.prog (Builtin.len_ #[22] 3 #[v_a]) fun t7 => 
 pur Try.prog (Builtin.len_ #[22] 3 #[v_b]) fun t9 => 
 pur Try.prog (binS .neq 3 false false t7 t9) fun t10 => 
 condS t10
  (Q (.bool false) w)
  (lp 1 (fun J => fun v_i w_1 => ∀ _j : Fr, 
  pur Try.prog (Builtin.len_ #[22] 3 #[v_a]) fun t13 => 
  pur Try.prog (binS .lss 3 false false v_i t13) fun t14 => 
  condS t14
   (pur Try.prog (Instr.indexAt 22 v_a v_i) fun t19 => 
  rd Try.prog (Instr.loadAt 27 t19) (fun t20 => 
  pur Try.prog (Instr.indexAt 22 v_b v_i) fun t23 => 
  rd Try.prog (Instr.loadAt 27 t23) (fun t24 => 
  rd Try.prog (binS .eql 27 false false t20 t24) (fun t25 => 
  pur Try.prog (Op.unary .not t25) fun t26 => 
  condS t26
   (Q (.bool false) (World.drew w_1))
   (pur Try.prog (binS .add 3 false true v_i (.int .i64 1)) fun t16 => 
  J t16 (World.drew w_1))) (World.drew w_1)) (World.drew w_1)) (World.drew w_1))
   (Q (.bool true) w_1)) [(.int .i64 0)] w)
theorem eq18 (v_a v_b : Value) (Q : Value → World → Prop) (w : World) : semF Try.prog 18 [v_a, v_b] Q w = S18 v_a v_b Q w := by kernel_rfl
theorem ref18 {v_a v_b : Value} {Q : Value → World → Prop} {w : World} (h : S18 v_a v_b Q w) : callS Try.prog 18 #[v_a, v_b] Q w :=
  callS_of mix (fun a w => Try.call18 a w) (by kernel_rfl) (by rw [eq18]; exact h)
-- commons/mode.Needs
def S19 (v_held v_l : Value) (Q : Value → World → Prop) (w : World) : Prop :=
 callS Try.prog 27 #[v_l] (fun t11 w_1 => 
 callS Try.prog 26 #[t11] (fun t13 w_2 => 
 pur Try.prog (Builtin.len_ #[22] 3 #[t13]) fun t14 => 
 lp 1 (fun J => fun t15 w_3 => ∀ _j : Fr, 
  pur Try.prog (binS .lss 3 false false t15 t14) fun t16 => 
  condS t16
   (pur Try.prog (Instr.indexAt 22 t13 t15) fun t17 => 
  rd Try.prog (Instr.loadAt 27 t17) (fun t18 => 
  act Try.prog (Instr.alloc 27 true (.tuple #[])) (fun t7 w_4 => 
  act Try.prog (thenU (Instr.storeAt 27 t7 t18)) (fun _ w_5 => 
  pur Try.prog (Instr.fieldAt 27 t7 0) fun t20 => 
  rd Try.prog (Instr.loadAt 25 t20) (fun t21 => 
  callS Try.prog 28 #[v_held, t21] (fun t22 w_6 => 
  pur Try.prog (Builtin.len_ #[57] 3 #[t22]) fun t23 => 
  lp 1 (fun J_1 => fun t24 w_7 => ∀ _j : Fr, 
   pur Try.prog (binS .lss 3 false false t24 t23) fun t25 => 
   condS t25
    (jn 0 (fun J_2 => 
    pur Try.prog (Instr.indexAt 57 t22 t24) fun t26 => 
    rd Try.prog (Instr.loadAt 60 t26) (fun t27 => 
    act Try.prog (Instr.alloc 60 true (.tuple #[])) (fun t9 w_8 => 
    act Try.prog (thenU (Instr.storeAt 60 t9 t27)) (fun _ w_9 => 
    pur Try.prog (Instr.fieldAt 60 t9 1) fun t28 => 
    rd Try.prog (Instr.loadAt 3 t28) (fun t29 => 
    pur Try.prog (Instr.fieldAt 27 t7 1) fun t30 => 
    rd Try.prog (Instr.loadAt 3 t30) (fun t31 => 
    callS Try.prog 15 #[t29, t31] (fun t32 w_10 => 
    condS t32
     (pur Try.prog (Instr.fieldAt 60 t9 0) fun t34 => 
     rd Try.prog (Instr.loadAt 25 t34) (fun t35 => 
     callS Try.prog 29 #[t11, t35] (fun _ w_11 => 
     J_2  w_11) w_10) w_10)
     (J_2  w_10)) w_9) w_9) w_9) w_8) w_7) w_7)
   (fun  w_12 => ∀ _j : Fr, 
    pur Try.prog (binS .add 3 false true t24 (.int .i64 1)) fun t37 => 
    J_1 t37 w_12))
    (pur Try.prog (binS .add 3 false true t15 (.int .i64 1)) fun t38 => 
  J t38 w_7)) [(.int .i64 0)] w_6) w_5) w_5) w_4) w_3) w_3)
   (callS Try.prog 26 #[t11] (fun t40 w_13 => 
 Q t40 w_13) w_3)) [(.int .i64 0)] w_2) w_1) w
theorem eq19 (v_held v_l : Value) (Q : Value → World → Prop) (w : World) : semF Try.prog 19 [v_held, v_l] Q w = S19 v_held v_l Q w := by kernel_rfl
theorem ref19 {v_held v_l : Value} {Q : Value → World → Prop} {w : World} (h : S19 v_held v_l Q w) : callS Try.prog 19 #[v_held, v_l] Q w :=
  callS_of mix (fun a w => Try.call19 a w) (by kernel_rfl) (by rw [eq19]; exact h)
-- commons/mode.Has
def S20 (v_held v_l : Value) (Q : Value → World → Prop) (w : World) : Prop :=
 callS Try.prog 19 #[v_held, v_l] (fun t7 w_1 => 
 pur Try.prog (Builtin.len_ #[22] 3 #[t7]) fun t8 => 
 pur Try.prog (binS .eql 3 false true t8 (.int .i64 0)) fun t9 => 
 Q t9 w_1) w
theorem eq20 (v_held v_l : Value) (Q : Value → World → Prop) (w : World) : semF Try.prog 20 [v_held, v_l] Q w = S20 v_held v_l Q w := by kernel_rfl
theorem ref20 {v_held v_l : Value} {Q : Value → World → Prop} {w : World} (h : S20 v_held v_l Q w) : callS Try.prog 20 #[v_held, v_l] Q w :=
  callS_of mix (fun a w => Try.call20 a w) (by kernel_rfl) (by rw [eq20]; exact h)
-- commons/commonslaw17.Held
def S21 (v_l : Value) (Q : Value → World → Prop) (w : World) : Prop :=
 callS Try.prog 30 #[] (fun t7 w_1 => 
 lp 2 (fun J => fun v_r v_i w_2 => ∀ _j : Fr, 
  pur Try.prog (Builtin.len_ #[22] 3 #[v_l]) fun t10 => 
  pur Try.prog (binS .lss 3 false false v_i t10) fun t11 => 
  condS t11
   (jn 1 (fun J_1 => 
   pur Try.prog (Instr.indexAt 22 v_l v_i) fun t16 => 
   pur Try.prog (Instr.fieldAt 27 t16 1) fun t17 => 
   rd Try.prog (Instr.loadAt 3 t17) (fun t18 => 
   callS Try.prog 10 #[t18] (fun t19 w_3 => 
   condS t19
    (pur Try.prog (Instr.indexAt 22 v_l v_i) fun t23 => 
    pur Try.prog (Instr.fieldAt 27 t23 0) fun t24 => 
    rd Try.prog (Instr.loadAt 25 t24) (fun t25 => 
    pur Try.prog (Instr.indexAt 22 v_l v_i) fun t28 => 
    pur Try.prog (Instr.fieldAt 27 t28 1) fun t29 => 
    rd Try.prog (Instr.loadAt 3 t29) (fun t30 => 
    callS Try.prog 22 #[t7, t25, t30] (fun _ w_4 => 
    pur Try.prog (Instr.indexAt 22 v_l v_i) fun t35 => 
    pur Try.prog (Instr.fieldAt 27 t35 0) fun t36 => 
    rd Try.prog (Instr.loadAt 25 t36) (fun t37 => 
    pur Try.prog (Instr.indexAt 22 v_l v_i) fun t40 => 
    pur Try.prog (Instr.fieldAt 27 t40 1) fun t41 => 
    rd Try.prog (Instr.loadAt 3 t41) (fun t42 => 
    callS Try.prog 31 #[v_r, t37, t42] (fun t43 w_5 => 
    J_1 t43 w_5) (World.drew w_4)) (World.drew w_4)) (World.drew w_4)) (World.drew w_3)) (World.drew w_3)) (World.drew w_3))
    (J_1 v_r w_3)) w_2) w_2)
  (fun v_r_1 w_6 => ∀ _j : Fr, 
   pur Try.prog (binS .add 3 false true v_i (.int .i64 1)) fun t13 => 
   J v_r_1 t13 w_6))
   (Q (.tuple #[t7, v_r]) w_2)) [(.slice none 0 0), (.int .i64 0)] w_1) w
theorem eq21 (v_l : Value) (Q : Value → World → Prop) (w : World) : semF Try.prog 21 [v_l] Q w = S21 v_l Q w := by kernel_rfl
theorem ref21 {v_l : Value} {Q : Value → World → Prop} {w : World} (h : S21 v_l Q w) : callS Try.prog 21 #[v_l] Q w :=
  callS_of mix (fun a w => Try.call21 a w) (by kernel_rfl) (by rw [eq21]; exact h)
-- (*commons/imap.Map[int]).Set
def S22 (v_m v_s v_v : Value) (Q : Value → World → Prop) (w : World) : Prop :=
 act Try.prog (Instr.box 25 v_s) (fun t4 w_1 => 
 rd Try.prog (binS .eql 43 false true v_m (.pointer none)) (fun t8 => 
 gd t8 false (fun k w_2 => rd Try.prog (Instr.loadAt 25 t4) (fun t10 => k t10 w_2) w_2) (fun t10_1 w_3 => 
 gd t8 false (fun k_1 w_4 => callS Try.prog 32 #[t10_1] (fun t11 w_5 => k_1 t11 w_5) w_4) (fun t11_1 w_6 => 
 gd t8 false (fun k_2 w_7 => pur Try.prog (Op.unary .not t11_1) fun t12 => k_2 t12 w_7) (fun t12_1 w_8 => 
 pur Try.prog (pickS t8 (.bool true) t12_1) fun t13 => 
 condS t13
  (Q (.bool false) w_8)
  (jn 0 (fun J => 
  ∃ S : World → Prop, S (World.drew w_8) ∧ 
 hld Try.prog S (Instr.loadAt 25 t4) fun t16 => 
  hld Try.prog S (Instr.loadAt 25 t4) fun t18 => 
  pur Try.prog (Instr.build 60 #[(0, t18), (1, v_v)]) fun t20 => 
  (callS Try.prog 34 #[v_m, t16] (fun t17 w_9 => S w_9 ∧ 
  act Try.prog (Instr.buildSlice 57 1 #[(0, t20)]) (fun t21 w_10 => S w_10 ∧ 
  act Try.prog (Builtin.append_ #[57, 57] 57 #[t17, t21]) (fun t22 w_11 => S w_11 ∧ 
  callS Try.prog 33 #[v_m, t22] (fun _ w_12 => S w_12 ∧ 
  J  w_12) w_11) w_10) w_9) (World.drew w_8)
  ) ∧ (act Try.prog (Instr.buildSlice 57 1 #[(0, t20)]) (fun t21_1 w_13 => S w_13 ∧ 
  callS Try.prog 34 #[v_m, t16] (fun t17_1 w_14 => S w_14 ∧ 
  act Try.prog (Builtin.append_ #[57, 57] 57 #[t17_1, t21_1]) (fun t22_1 w_15 => S w_15 ∧ 
  callS Try.prog 33 #[v_m, t22_1] (fun _ w_16 => S w_16 ∧ 
  J  w_16) w_15) w_14) w_13) (World.drew w_8)))
 (fun  w_17 => ∀ _j : Fr, 
  Q (.bool true) w_17))) w_6) w_3) w_1) w_1) w
theorem eq22 (v_m v_s v_v : Value) (Q : Value → World → Prop) (w : World) : semF Try.prog 22 [v_m, v_s, v_v] Q w = S22 v_m v_s v_v Q w := by kernel_rfl
theorem ref22 {v_m v_s v_v : Value} {Q : Value → World → Prop} {w : World} (h : S22 v_m v_s v_v Q w) : callS Try.prog 22 #[v_m, v_s, v_v] Q w :=
  callS_of mix (fun a w => Try.call22 a w) (by kernel_rfl) (by rw [eq22]; exact h)
-- commons/commonsref1.Meet
def S23 (v_a v_b : Value) (Q : Value → World → Prop) (w : World) : Prop :=
 act Try.prog (Instr.box 25 v_a) (fun t2 w_1 => 
 act Try.prog (Instr.box 25 v_b) (fun t3 w_2 => 
 act Try.prog (Instr.alloc 25 true (.tuple #[])) (fun t4 w_3 => 
 pur Try.prog (Instr.fieldAt 25 t2 0) fun t7 => 
 rd Try.prog (Instr.loadAt 3 t7) (fun t8 => 
 pur Try.prog (Instr.fieldAt 25 t3 0) fun t9 => 
 rd Try.prog (Instr.loadAt 3 t9) (fun t10 => 
 pur Try.prog (Builtin.max_ #[3, 3] 3 #[t8, t10]) fun t11 => 
 pur Try.prog (Instr.fieldAt 25 t2 1) fun t12 => 
 rd Try.prog (Instr.loadAt 3 t12) (fun t13 => 
 pur Try.prog (Instr.fieldAt 25 t3 1) fun t14 => 
 rd Try.prog (Instr.loadAt 3 t14) (fun t15 => 
 pur Try.prog (Builtin.min_ #[3, 3] 3 #[t13, t15]) fun t16 => 
 pur Try.prog (Instr.build 25 #[(0, t11), (1, t16)]) fun t17 => 
 act Try.prog (Instr.alloc 25 true (.tuple #[])) (fun t6 w_4 => 
 act Try.prog (thenU (Instr.storeAt 25 t6 t17)) (fun _ w_5 => 
 rd Try.prog (Instr.loadAt 25 t2) (fun t18 => 
 callS Try.prog 35 #[t18] (fun t19 w_6 => 
 pur Try.prog (Op.unary .not t19) fun t20 => 
 gd t20 false (fun k w_7 => rd Try.prog (Instr.loadAt 25 t3) (fun t22 => k t22 w_7) w_7) (fun t22_1 w_8 => 
 gd t20 false (fun k_1 w_9 => callS Try.prog 35 #[t22_1] (fun t23 w_10 => k_1 t23 w_10) w_9) (fun t23_1 w_11 => 
 gd t20 false (fun k_2 w_12 => pur Try.prog (Op.unary .not t23_1) fun t24 => k_2 t24 w_12) (fun t24_1 w_13 => 
 pur Try.prog (pickS t20 (.bool true) t24_1) fun t25 => 
 gd t25 false (fun k_3 w_14 => rd Try.prog (Instr.loadAt 25 t6) (fun t27 => k_3 t27 w_14) w_14) (fun t27_1 w_15 => 
 gd t25 false (fun k_4 w_16 => callS Try.prog 35 #[t27_1] (fun t28 w_17 => k_4 t28 w_17) w_16) (fun t28_1 w_18 => 
 gd t25 false (fun k_5 w_19 => pur Try.prog (Op.unary .not t28_1) fun t29 => k_5 t29 w_19) (fun t29_1 w_20 => 
 pur Try.prog (pickS t25 (.bool true) t29_1) fun t30 => 
 condS t30
  (pur Try.prog (Instr.build 25 #[]) fun t31 => 
  act Try.prog (thenU (Instr.storeAt 25 t4 t31)) (fun _ w_21 => 
  rd Try.prog (resL 25 t4) (fun r => Q (.tuple #[r, (.bool false)]) w_21) w_21) w_20)
  (rd Try.prog (Instr.loadAt 25 t6) (fun t32 => 
 act Try.prog (thenU (Instr.storeAt 25 t4 t32)) (fun _ w_22 => 
 rd Try.prog (resL 25 t4) (fun r_1 => Q (.tuple #[r_1, (.bool true)]) w_22) w_22) w_20) w_20)) w_18) w_15) w_13) w_11) w_8) w_6) w_5) w_5) w_4) w_3) w_3) w_3) w_3) w_3) w_2) w_1) w
theorem eq23 (v_a v_b : Value) (Q : Value → World → Prop) (w : World) : semF Try.prog 23 [v_a, v_b] Q w = S23 v_a v_b Q w := by kernel_rfl
theorem ref23 {v_a v_b : Value} {Q : Value → World → Prop} {w : World} (h : S23 v_a v_b Q w) : callS Try.prog 23 #[v_a, v_b] Q w :=
  callS_of mix (fun a w => Try.call23 a w) (by kernel_rfl) (by rw [eq23]; exact h)
-- commons/commonsref14.Norm
def S24 (v_l : Value) (Q : Value → World → Prop) (w : World) : Prop :=
 lp 2 (fun J => fun v_m v_mode w_1 => ∀ _j : Fr, 
  pur Try.prog (binS .leq 3 false true v_mode (.int .i64 2)) fun t7 => 
  condS t7
   (lp 2 (fun J_1 => fun v_m_1 v_i w_2 => ∀ _j : Fr, 
   pur Try.prog (Builtin.len_ #[22] 3 #[v_l]) fun t12 => 
   pur Try.prog (binS .lss 3 false false v_i t12) fun t13 => 
   condS t13
    (jn 1 (fun J_2 => 
    pur Try.prog (Instr.indexAt 22 v_l v_i) fun t18 => 
    pur Try.prog (Instr.fieldAt 27 t18 1) fun t19 => 
    rd Try.prog (Instr.loadAt 3 t19) (fun t20 => 
    pur Try.prog (binS .eql 3 false false t20 v_mode) fun t22 => 
    condS t22
     (pur Try.prog (Instr.indexAt 22 v_l v_i) fun t26 => 
     pur Try.prog (Instr.fieldAt 27 t26 0) fun t27 => 
     rd Try.prog (Instr.loadAt 25 t27) (fun t28 => 
     callS Try.prog 31 #[v_m_1, t28, v_mode] (fun t30 w_3 => 
     J_2 t30 w_3) w_2) w_2)
     (J_2 v_m_1 w_2)) w_2)
   (fun v_m_2 w_4 => ∀ _j : Fr, 
    pur Try.prog (binS .add 3 false true v_i (.int .i64 1)) fun t15 => 
    J_1 v_m_2 t15 w_4))
    (pur Try.prog (binS .add 3 false true v_mode (.int .i64 1)) fun t9 => 
  J v_m_1 t9 w_2)) [v_m, (.int .i64 0)] w_1)
   (Q v_m w_1)) [(.slice none 0 0), (.int .i64 1)] w
theorem eq24 (v_l : Value) (Q : Value → World → Prop) (w : World) : semF Try.prog 24 [v_l] Q w = S24 v_l Q w := by kernel_rfl
theorem ref24 {v_l : Value} {Q : Value → World → Prop} {w : World} (h : S24 v_l Q w) : callS Try.prog 24 #[v_l] Q w :=
  callS_of mix (fun a w => Try.call24 a w) (by kernel_rfl) (by rw [eq24]; exact h)
-- (commons/commonsref1.Map).Parts
def S25 (v_m v_s : Value) (Q : Value → World → Prop) (w : World) : Prop :=
 act Try.prog (Instr.box 25 v_s) (fun t3 w_1 => 
 lp 2 (fun J => fun v_out v_i w_2 => ∀ _j : Fr, 
  pur Try.prog (Builtin.len_ #[45] 3 #[v_m]) fun t11 => 
  pur Try.prog (binS .lss 3 false false v_i t11) fun t12 => 
  condS t12
   (jn 1 (fun J_1 => 
   jn 2 (fun J_2 => 
    ∃ S : World → Prop, S (World.drew w_2) ∧ 
   pur Try.prog (Instr.indexAt 45 v_m v_i) fun t18 => 
    pur Try.prog (Instr.fieldAt 54 t18 0) fun t19 => 
    hld Try.prog S (Instr.loadAt 25 t19) fun t20 => 
    hld Try.prog S (Instr.loadAt 25 t3) fun t21 => 
    (callS Try.prog 23 #[t20, t21] (fun t22 w_3 => S w_3 ∧ 
    pur Try.prog (Instr.extract t22 0) fun t23 => 
    pur Try.prog (Instr.extract t22 1) fun t24 => 
    act Try.prog (Instr.alloc 25 true (.tuple #[])) (fun t7 w_4 => S w_4 ∧ 
    act Try.prog (thenU (Instr.storeAt 25 t7 t23)) (fun _ w_5 => S w_5 ∧ 
    J_2 t7 t24 w_5) w_4) w_3) (World.drew w_2)
    ) ∧ (act Try.prog (Instr.alloc 25 true (.tuple #[])) (fun t7_1 w_6 => S w_6 ∧ 
    callS Try.prog 23 #[t20, t21] (fun t22_1 w_7 => S w_7 ∧ 
    pur Try.prog (Instr.extract t22_1 0) fun t23_1 => 
    pur Try.prog (Instr.extract t22_1 1) fun t24_1 => 
    act Try.prog (thenU (Instr.storeAt 25 t7_1 t23_1)) (fun _ w_8 => S w_8 ∧ 
    J_2 t7_1 t24_1 w_8) w_7) w_6) (World.drew w_2)))
   (fun v_x v_ok w_9 => ∀ _j : Fr, 
    condS v_ok
    (rd Try.prog (Instr.loadAt 25 v_x) (fun t27 => 
    pur Try.prog (Instr.indexAt 45 v_m v_i) fun t30 => 
    pur Try.prog (Instr.fieldAt 54 t30 1) fun t31 => 
    rd Try.prog (Instr.loadAt 3 t31) (fun t32 => 
    pur Try.prog (Instr.build 54 #[(0, t27), (1, t32)]) fun t33 => 
    act Try.prog (Instr.buildSlice 45 1 #[(0, t33)]) (fun t34 w_10 => 
    act Try.prog (Builtin.append_ #[45, 45] 45 #[v_out, t34]) (fun t35 w_11 => 
    J_1 t35 w_11) w_10) (World.drew w_9)) (World.drew w_9)) (World.drew w_9))
    (J_1 v_out w_9)))
  (fun v_out_1 w_12 => ∀ _j : Fr, 
   pur Try.prog (binS .add 3 false true v_i (.int .i64 1)) fun t14 => 
   J v_out_1 t14 w_12))
   (Q v_out w_2)) [(.slice none 0 0), (.int .i64 0)] w_1) w
theorem eq25 (v_m v_s : Value) (Q : Value → World → Prop) (w : World) : semF Try.prog 25 [v_m, v_s] Q w = S25 v_m v_s Q w := by kernel_rfl
theorem ref25 {v_m v_s : Value} {Q : Value → World → Prop} {w : World} (h : S25 v_m v_s Q w) : callS Try.prog 25 #[v_m, v_s] Q w :=
  callS_of mix (fun a w => Try.call25 a w) (by kernel_rfl) (by rw [eq25]; exact h)
-- commons/mode.locks
def S26 (v_m : Value) (Q : Value → World → Prop) (w : World) : Prop :=
 callS Try.prog 36 #[v_m] (fun t7 w_1 => 
 pur Try.prog (Builtin.len_ #[57] 3 #[t7]) fun t8 => 
 lp 2 (fun J => fun v_out t9 w_2 => ∀ _j : Fr, 
  pur Try.prog (binS .lss 3 false false t9 t8) fun t10 => 
  condS t10
   (pur Try.prog (Instr.indexAt 57 t7 t9) fun t11 => 
  rd Try.prog (Instr.loadAt 60 t11) (fun t12 => 
  act Try.prog (Instr.alloc 60 true (.tuple #[])) (fun t5 w_3 => 
  act Try.prog (thenU (Instr.storeAt 60 t5 t12)) (fun _ w_4 => 
  pur Try.prog (Instr.fieldAt 60 t5 0) fun t14 => 
  rd Try.prog (Instr.loadAt 25 t14) (fun t15 => 
  pur Try.prog (Instr.fieldAt 60 t5 1) fun t16 => 
  rd Try.prog (Instr.loadAt 3 t16) (fun t17 => 
  pur Try.prog (Instr.build 27 #[(0, t15), (1, t17)]) fun t18 => 
  act Try.prog (Instr.buildSlice 22 1 #[(0, t18)]) (fun t19 w_5 => 
  act Try.prog (Builtin.append_ #[22, 22] 22 #[v_out, t19]) (fun t20 w_6 => 
  pur Try.prog (binS .add 3 false true t9 (.int .i64 1)) fun t21 => 
  J t20 t21 w_6) w_5) w_4) w_4) w_4) w_3) w_2) w_2)
   (Q v_out w_2)) [(.slice none 0 0), (.int .i64 0)] w_1) w
theorem eq26 (v_m : Value) (Q : Value → World → Prop) (w : World) : semF Try.prog 26 [v_m] Q w = S26 v_m Q w := by kernel_rfl
theorem ref26 {v_m : Value} {Q : Value → World → Prop} {w : World} (h : S26 v_m Q w) : callS Try.prog 26 #[v_m] Q w :=
  callS_of mix (fun a w => Try.call26 a w) (by kernel_rfl) (by rw [eq26]; exact h)
-- commons/mode.asked
def S27 (v_l : Value) (Q : Value → World → Prop) (w : World) : Prop :=
 callS Try.prog 30 #[] (fun t6 w_1 => 
 pur Try.prog (Builtin.len_ #[22] 3 #[v_l]) fun t8 => 
 lp 1 (fun J => fun t9 w_2 => ∀ _j : Fr, 
  pur Try.prog (binS .lss 3 false false t9 t8) fun t10 => 
  condS t10
   (jn 0 (fun J_1 => 
   pur Try.prog (Instr.indexAt 22 v_l t9) fun t11 => 
   rd Try.prog (Instr.loadAt 27 t11) (fun t12 => 
   act Try.prog (Instr.alloc 27 true (.tuple #[])) (fun t5 w_3 => 
   act Try.prog (thenU (Instr.storeAt 27 t5 t12)) (fun _ w_4 => 
   pur Try.prog (Instr.fieldAt 27 t5 1) fun t13 => 
   rd Try.prog (Instr.loadAt 3 t13) (fun t14 => 
   pur Try.prog (binS .eql 3 false true t14 (.int .i64 1)) fun t15 => 
   gd t15 false (fun k w_5 => pur Try.prog (Instr.fieldAt 27 t5 1) fun t17 => k t17 w_5) (fun t17_1 w_6 => 
   gd t15 false (fun k_1 w_7 => rd Try.prog (Instr.loadAt 3 t17_1) (fun t18 => k_1 t18 w_7) w_7) (fun t18_1 w_8 => 
   gd t15 false (fun k_2 w_9 => pur Try.prog (binS .eql 3 false true t18_1 (.int .i64 2)) fun t19 => k_2 t19 w_9) (fun t19_1 w_10 => 
   pur Try.prog (pickS t15 (.bool true) t19_1) fun t20 => 
   condS t20
    (rd Try.prog (Instr.loadAt 27 t5) (fun t22 => 
    callS Try.prog 37 #[t6, t22] (fun _ w_11 => 
    J_1  w_11) w_10) w_10)
    (J_1  w_10)) w_8) w_6) w_4) w_4) w_3) w_2) w_2)
  (fun  w_12 => ∀ _j : Fr, 
   pur Try.prog (binS .add 3 false true t9 (.int .i64 1)) fun t24 => 
   J t24 w_12))
   (Q t6 w_2)) [(.int .i64 0)] w_1) w
theorem eq27 (v_l : Value) (Q : Value → World → Prop) (w : World) : semF Try.prog 27 [v_l] Q w = S27 v_l Q w := by kernel_rfl
theorem ref27 {v_l : Value} {Q : Value → World → Prop} {w : World} (h : S27 v_l Q w) : callS Try.prog 27 #[v_l] Q w :=
  callS_of mix (fun a w => Try.call27 a w) (by kernel_rfl) (by rw [eq27]; exact h)
-- (*commons/imap.Map[int]).Parts
def S28 (v_m v_s : Value) (Q : Value → World → Prop) (w : World) : Prop :=
 act Try.prog (Instr.box 25 v_s) (fun t3 w_1 => 
 rd Try.prog (binS .eql 43 false true v_m (.pointer none)) (fun t11 => 
 condS t11
  (Q (.slice none 0 0) w_1)
  (pur Try.prog (nilV v_m) fun t13 => 
 pur Try.prog (Instr.fieldAt 68 t13 0) fun t14 => 
 rd Try.prog (Instr.loadAt 57 t14) (fun t15 => 
 pur Try.prog (Builtin.len_ #[57] 3 #[t15]) fun t16 => 
 lp 2 (fun J => fun v_out t17 w_2 => ∀ _j : Fr, 
  pur Try.prog (binS .lss 3 false false t17 t16) fun t18 => 
  condS t18
   (jn 1 (fun J_1 => 
   pur Try.prog (Instr.indexAt 57 t15 t17) fun t19 => 
   rd Try.prog (Instr.loadAt 60 t19) (fun t20 => 
   act Try.prog (Instr.alloc 60 true (.tuple #[])) (fun t7 w_3 => 
   act Try.prog (thenU (Instr.storeAt 60 t7 t20)) (fun _ w_4 => 
   pur Try.prog (Instr.fieldAt 60 t7 0) fun t22 => 
   rd Try.prog (Instr.loadAt 25 t22) (fun t23 => 
   rd Try.prog (Instr.loadAt 25 t3) (fun t24 => 
   callS Try.prog 38 #[t23, t24] (fun t25 w_5 => 
   pur Try.prog (Instr.extract t25 0) fun t26 => 
   pur Try.prog (Instr.extract t25 1) fun t27 => 
   act Try.prog (Instr.alloc 25 true (.tuple #[])) (fun t8 w_6 => 
   act Try.prog (thenU (Instr.storeAt 25 t8 t26)) (fun _ w_7 => 
   condS t27
    (rd Try.prog (Instr.loadAt 25 t8) (fun t30 => 
    pur Try.prog (Instr.fieldAt 60 t7 1) fun t31 => 
    rd Try.prog (Instr.loadAt 3 t31) (fun t32 => 
    pur Try.prog (Instr.build 60 #[(0, t30), (1, t32)]) fun t33 => 
    act Try.prog (Instr.buildSlice 57 1 #[(0, t33)]) (fun t34 w_8 => 
    act Try.prog (Builtin.append_ #[57, 57] 57 #[v_out, t34]) (fun t35 w_9 => 
    J_1 t35 w_9) w_8) w_7) w_7) w_7)
    (J_1 v_out w_7)) w_6) w_5) w_4) w_4) w_4) w_3) w_2) w_2)
  (fun v_out_1 w_10 => ∀ _j : Fr, 
   pur Try.prog (binS .add 3 false true t17 (.int .i64 1)) fun t36 => 
   J v_out_1 t36 w_10))
   (Q v_out w_2)) [(.slice none 0 0), (.int .i64 0)] w_1) w_1)) w_1) w
theorem eq28 (v_m v_s : Value) (Q : Value → World → Prop) (w : World) : semF Try.prog 28 [v_m, v_s] Q w = S28 v_m v_s Q w := by kernel_rfl
theorem ref28 {v_m v_s : Value} {Q : Value → World → Prop} {w : World} (h : S28 v_m v_s Q w) : callS Try.prog 28 #[v_m, v_s] Q w :=
  callS_of mix (fun a w => Try.call28 a w) (by kernel_rfl) (by rw [eq28]; exact h)
-- (*commons/imap.Map[int]).Clear
def S29 (v_m v_s : Value) (Q : Value → World → Prop) (w : World) : Prop :=
 act Try.prog (Instr.box 25 v_s) (fun t3 w_1 => 
 rd Try.prog (binS .eql 43 false true v_m (.pointer none)) (fun t6 => 
 gd t6 false (fun k w_2 => rd Try.prog (Instr.loadAt 25 t3) (fun t8 => k t8 w_2) w_2) (fun t8_1 w_3 => 
 gd t6 false (fun k_1 w_4 => callS Try.prog 32 #[t8_1] (fun t9 w_5 => k_1 t9 w_5) w_4) (fun t9_1 w_6 => 
 gd t6 false (fun k_2 w_7 => pur Try.prog (Op.unary .not t9_1) fun t10 => k_2 t10 w_7) (fun t10_1 w_8 => 
 pur Try.prog (pickS t6 (.bool true) t10_1) fun t11 => 
 condS t11
  (Q (.bool false) w_8)
  (rd Try.prog (Instr.loadAt 25 t3) (fun t14 => 
 callS Try.prog 34 #[v_m, t14] (fun t15 w_9 => 
 callS Try.prog 33 #[v_m, t15] (fun _ w_10 => 
 Q (.bool true) w_10) w_9) w_8) w_8)) w_6) w_3) w_1) w_1) w
theorem eq29 (v_m v_s : Value) (Q : Value → World → Prop) (w : World) : semF Try.prog 29 [v_m, v_s] Q w = S29 v_m v_s Q w := by kernel_rfl
theorem ref29 {v_m v_s : Value} {Q : Value → World → Prop} {w : World} (h : S29 v_m v_s Q w) : callS Try.prog 29 #[v_m, v_s] Q w :=
  callS_of mix (fun a w => Try.call29 a w) (by kernel_rfl) (by rw [eq29]; exact h)
-- commons/imap.New[int]
def S30 (Q : Value → World → Prop) (w : World) : Prop :=
 pur Try.prog (Instr.build 68 #[]) fun t1 => 
 act Try.prog (Instr.box 68 t1) (fun t2 w_1 => 
 Q t2 w_1) w
theorem eq30 (Q : Value → World → Prop) (w : World) : semF Try.prog 30 [] Q w = S30 Q w := by kernel_rfl
theorem ref30 {Q : Value → World → Prop} {w : World} (h : S30 Q w) : callS Try.prog 30 #[] Q w :=
  callS_of mix (fun a w => Try.call30 a w) (by kernel_rfl) (by rw [eq30]; exact h)
-- (commons/commonsref1.Map).Set
def S31 (v_m v_s v_v : Value) (Q : Value → World → Prop) (w : World) : Prop :=
 act Try.prog (Instr.box 25 v_s) (fun t4 w_1 => 
 rd Try.prog (Instr.loadAt 25 t4) (fun t12 => 
 callS Try.prog 35 #[t12] (fun t13 w_2 => 
 pur Try.prog (Op.unary .not t13) fun t14 => 
 condS t14
  (Q v_m w_2)
  (rd Try.prog (Instr.loadAt 25 t4) (fun t17 => 
 callS Try.prog 39 #[v_m, t17] (fun t18 w_3 => 
 lp 1 (fun J => fun v_k w_4 => ∀ _j : Fr, 
  pur Try.prog (Builtin.len_ #[45] 3 #[t18]) fun t21 => 
  pur Try.prog (binS .lss 3 false false v_k t21) fun t22 => 
  gd t22 true (fun k w_5 => k t18 w_5) (fun t24_1 w_6 => 
  gd t22 true (fun k_1 w_7 => k_1 v_k w_7) (fun t25_1 w_8 => 
  gd t22 true (fun k_2 w_9 => pur Try.prog (Instr.indexAt 45 t24_1 t25_1) fun t26 => k_2 t26 w_9) (fun t26_1 w_10 => 
  gd t22 true (fun k_3 w_11 => pur Try.prog (Instr.fieldAt 54 t26_1 0) fun t27 => k_3 t27 w_11) (fun t27_1 w_12 => 
  gd t22 true (fun k_4 w_13 => pur Try.prog (Instr.fieldAt 25 t27_1 0) fun t28 => k_4 t28 w_13) (fun t28_1 w_14 => 
  gd t22 true (fun k_5 w_15 => rd Try.prog (Instr.loadAt 3 t28_1) (fun t29 => k_5 t29 w_15) w_15) (fun t29_1 w_16 => 
  gd t22 true (fun k_6 w_17 => pur Try.prog (Instr.fieldAt 25 t4 0) fun t30 => k_6 t30 w_17) (fun t30_1 w_18 => 
  gd t22 true (fun k_7 w_19 => rd Try.prog (Instr.loadAt 3 t30_1) (fun t31 => k_7 t31 w_19) w_19) (fun t31_1 w_20 => 
  gd t22 true (fun k_8 w_21 => pur Try.prog (binS .lss 3 false false t29_1 t31_1) fun t32 => k_8 t32 w_21) (fun t32_1 w_22 => 
  pur Try.prog (pickS t22 t32_1 (.bool false)) fun t33 => 
  condS t33
   (pur Try.prog (binS .add 3 false true v_k (.int .i64 1)) fun t35 => 
  J t35 w_22)
   (jn 1 (fun J_1 => 
  pur Try.prog (Instr.sliceAt 45 t18 none (some v_k) none) fun t38 => 
  pur Try.prog (Instr.sliceAt 45 t18 (some v_k) none none) fun t47 => 
  (act Try.prog (Builtin.append_ #[45, 45] 45 #[(.slice none 0 0), t38]) (fun t39 w_23 => 
  rd Try.prog (Instr.loadAt 25 t4) (fun t40 => 
  pur Try.prog (Instr.build 54 #[(0, t40), (1, v_v)]) fun t42 => 
  act Try.prog (Instr.buildSlice 45 1 #[(0, t42)]) (fun t43 w_24 => 
  act Try.prog (Builtin.append_ #[45, 45] 45 #[t39, t43]) (fun t44 w_25 => 
  act Try.prog (Builtin.append_ #[45, 45] 45 #[t44, t47]) (fun t48 w_26 => 
  J_1 t48 w_26) w_25) w_24) w_23) w_23) (World.drew w_22)
  ) ∧ (rd Try.prog (Instr.loadAt 25 t4) (fun t40_1 => 
  pur Try.prog (Instr.build 54 #[(0, t40_1), (1, v_v)]) fun t42_1 => 
  (act Try.prog (Builtin.append_ #[45, 45] 45 #[(.slice none 0 0), t38]) (fun t39_1 w_27 => 
  act Try.prog (Instr.buildSlice 45 1 #[(0, t42_1)]) (fun t43_1 w_28 => 
  act Try.prog (Builtin.append_ #[45, 45] 45 #[t39_1, t43_1]) (fun t44_1 w_29 => 
  act Try.prog (Builtin.append_ #[45, 45] 45 #[t44_1, t47]) (fun t48_1 w_30 => 
  J_1 t48_1 w_30) w_29) w_28) w_27) (World.drew w_22)
  ) ∧ (act Try.prog (Instr.buildSlice 45 1 #[(0, t42_1)]) (fun t43_2 w_31 => 
  act Try.prog (Builtin.append_ #[45, 45] 45 #[(.slice none 0 0), t38]) (fun t39_2 w_32 => 
  act Try.prog (Builtin.append_ #[45, 45] 45 #[t39_2, t43_2]) (fun t44_2 w_33 => 
  act Try.prog (Builtin.append_ #[45, 45] 45 #[t44_2, t47]) (fun t48_2 w_34 => 
  J_1 t48_2 w_34) w_33) w_32) w_31) (World.drew w_22))) (World.drew w_22)))
 (fun v_l w_35 => ∀ _j : Fr, 
  lp 2 (fun J_2 => fun v_out v_i w_36 => ∀ _j : Fr, 
  pur Try.prog (Builtin.len_ #[45] 3 #[v_l]) fun t51 => 
  pur Try.prog (binS .lss 3 false false v_i t51) fun t52 => 
  condS t52
   (jn 1 (fun J_3 => 
   pur Try.prog (Builtin.len_ #[45] 3 #[v_out]) fun t56 => 
   pur Try.prog (binS .gtr 3 false true t56 (.int .i64 0)) fun t58 => 
   gd t58 true (fun k_9 w_37 => k_9 v_out w_37) (fun t60_1 w_38 => 
   gd t58 true (fun k_10 w_39 => k_10 t56 w_39) (fun t61_1 w_40 => 
   gd t58 true (fun k_11 w_41 => pur Try.prog (binS .sub 3 false true t61_1 (.int .i64 1)) fun t62 => k_11 t62 w_41) (fun t62_1 w_42 => 
   gd t58 true (fun k_12 w_43 => pur Try.prog (Instr.indexAt 45 t60_1 t62_1) fun t63 => k_12 t63 w_43) (fun t63_1 w_44 => 
   gd t58 true (fun k_13 w_45 => pur Try.prog (Instr.fieldAt 54 t63_1 0) fun t64 => k_13 t64 w_45) (fun t64_1 w_46 => 
   gd t58 true (fun k_14 w_47 => pur Try.prog (Instr.fieldAt 25 t64_1 1) fun t65 => k_14 t65 w_47) (fun t65_1 w_48 => 
   gd t58 true (fun k_15 w_49 => rd Try.prog (Instr.loadAt 3 t65_1) (fun t66 => k_15 t66 w_49) w_49) (fun t66_1 w_50 => 
   gd t58 true (fun k_16 w_51 => k_16 v_l w_51) (fun t67_1 w_52 => 
   gd t58 true (fun k_17 w_53 => k_17 v_i w_53) (fun t68_1 w_54 => 
   gd t58 true (fun k_18 w_55 => pur Try.prog (Instr.indexAt 45 t67_1 t68_1) fun t69 => k_18 t69 w_55) (fun t69_1 w_56 => 
   gd t58 true (fun k_19 w_57 => pur Try.prog (Instr.fieldAt 54 t69_1 0) fun t70 => k_19 t70 w_57) (fun t70_1 w_58 => 
   gd t58 true (fun k_20 w_59 => pur Try.prog (Instr.fieldAt 25 t70_1 0) fun t71 => k_20 t71 w_59) (fun t71_1 w_60 => 
   gd t58 true (fun k_21 w_61 => rd Try.prog (Instr.loadAt 3 t71_1) (fun t72 => k_21 t72 w_61) w_61) (fun t72_1 w_62 => 
   gd t58 true (fun k_22 w_63 => pur Try.prog (binS .eql 3 false false t66_1 t72_1) fun t73 => k_22 t73 w_63) (fun t73_1 w_64 => 
   pur Try.prog (pickS t58 t73_1 (.bool false)) fun t74 => 
   gd t74 true (fun k_23 w_65 => k_23 v_out w_65) (fun t76_1 w_66 => 
   gd t74 true (fun k_24 w_67 => k_24 t56 w_67) (fun t77_1 w_68 => 
   gd t74 true (fun k_25 w_69 => pur Try.prog (binS .sub 3 false true t77_1 (.int .i64 1)) fun t78 => k_25 t78 w_69) (fun t78_1 w_70 => 
   gd t74 true (fun k_26 w_71 => pur Try.prog (Instr.indexAt 45 t76_1 t78_1) fun t79 => k_26 t79 w_71) (fun t79_1 w_72 => 
   gd t74 true (fun k_27 w_73 => pur Try.prog (Instr.fieldAt 54 t79_1 1) fun t80 => k_27 t80 w_73) (fun t80_1 w_74 => 
   gd t74 true (fun k_28 w_75 => rd Try.prog (Instr.loadAt 3 t80_1) (fun t81 => k_28 t81 w_75) w_75) (fun t81_1 w_76 => 
   gd t74 true (fun k_29 w_77 => k_29 v_l w_77) (fun t82_1 w_78 => 
   gd t74 true (fun k_30 w_79 => k_30 v_i w_79) (fun t83_1 w_80 => 
   gd t74 true (fun k_31 w_81 => pur Try.prog (Instr.indexAt 45 t82_1 t83_1) fun t84 => k_31 t84 w_81) (fun t84_1 w_82 => 
   gd t74 true (fun k_32 w_83 => pur Try.prog (Instr.fieldAt 54 t84_1 1) fun t85 => k_32 t85 w_83) (fun t85_1 w_84 => 
   gd t74 true (fun k_33 w_85 => rd Try.prog (Instr.loadAt 3 t85_1) (fun t86 => k_33 t86 w_85) w_85) (fun t86_1 w_86 => 
   gd t74 true (fun k_34 w_87 => pur Try.prog (binS .eql 3 false false t81_1 t86_1) fun t87 => k_34 t87 w_87) (fun t87_1 w_88 => 
   pur Try.prog (pickS t74 t87_1 (.bool false)) fun t88 => 
   condS t88
    (pur Try.prog (binS .sub 3 false true t56 (.int .i64 1)) fun t91 => 
    pur Try.prog (Instr.indexAt 45 v_l v_i) fun t94 => 
    pur Try.prog (Instr.fieldAt 54 t94 0) fun t95 => 
    pur Try.prog (Instr.fieldAt 25 t95 1) fun t96 => 
    rd Try.prog (Instr.loadAt 3 t96) (fun t97 => 
    pur Try.prog (Instr.indexAt 45 v_out t91) fun t98 => 
    pur Try.prog (Instr.fieldAt 54 t98 0) fun t99 => 
    pur Try.prog (Instr.fieldAt 25 t99 1) fun t100 => 
    act Try.prog (thenU (Instr.storeAt 3 t100 t97)) (fun _ w_89 => 
    J_3 v_out w_89) w_88) w_88)
    (pur Try.prog (Instr.indexAt 45 v_l v_i) fun t104 => 
    rd Try.prog (Instr.loadAt 54 t104) (fun t105 => 
    act Try.prog (Instr.buildSlice 45 1 #[(0, t105)]) (fun t106 w_90 => 
    act Try.prog (Builtin.append_ #[45, 45] 45 #[v_out, t106]) (fun t107 w_91 => 
    J_3 t107 w_91) w_90) w_88) w_88)) w_86) w_84) w_82) w_80) w_78) w_76) w_74) w_72) w_70) w_68) w_66) w_64) w_62) w_60) w_58) w_56) w_54) w_52) w_50) w_48) w_46) w_44) w_42) w_40) w_38) (World.drew w_36))
  (fun v_out_1 w_92 => ∀ _j : Fr, 
   pur Try.prog (binS .add 3 false true v_i (.int .i64 1)) fun t54 => 
   J_2 v_out_1 t54 w_92))
   (Q v_out w_36)) [(.slice none 0 0), (.int .i64 0)] w_35))) w_20) w_18) w_16) w_14) w_12) w_10) w_8) w_6) (World.drew w_4)) [(.int .i64 0)] w_3) w_2) w_2)) w_1) w_1) w
theorem eq31 (v_m v_s v_v : Value) (Q : Value → World → Prop) (w : World) : semF Try.prog 31 [v_m, v_s, v_v] Q w = S31 v_m v_s v_v Q w := by kernel_rfl
theorem ref31 {v_m v_s v_v : Value} {Q : Value → World → Prop} {w : World} (h : S31 v_m v_s v_v Q w) : callS Try.prog 31 #[v_m, v_s, v_v] Q w :=
  callS_of mix (fun a w => Try.call31 a w) (by kernel_rfl) (by rw [eq31]; exact h)
-- commons/span.Valid
def S32 (v_s : Value) (Q : Value → World → Prop) (w : World) : Prop :=
 act Try.prog (Instr.box 25 v_s) (fun t1 w_1 => 
 pur Try.prog (Instr.fieldAt 25 t1 0) fun t3 => 
 rd Try.prog (Instr.loadAt 3 t3) (fun t4 => 
 pur Try.prog (binS .geq 3 false true t4 (.int .i64 0)) fun t5 => 
 gd t5 true (fun k w_2 => pur Try.prog (Instr.fieldAt 25 t1 0) fun t7 => k t7 w_2) (fun t7_1 w_3 => 
 gd t5 true (fun k_1 w_4 => rd Try.prog (Instr.loadAt 3 t7_1) (fun t8 => k_1 t8 w_4) w_4) (fun t8_1 w_5 => 
 gd t5 true (fun k_2 w_6 => pur Try.prog (Instr.fieldAt 25 t1 1) fun t9 => k_2 t9 w_6) (fun t9_1 w_7 => 
 gd t5 true (fun k_3 w_8 => rd Try.prog (Instr.loadAt 3 t9_1) (fun t10 => k_3 t10 w_8) w_8) (fun t10_1 w_9 => 
 gd t5 true (fun k_4 w_10 => pur Try.prog (binS .lss 3 false false t8_1 t10_1) fun t11 => k_4 t11 w_10) (fun t11_1 w_11 => 
 pur Try.prog (pickS t5 t11_1 (.bool false)) fun t12 => 
 Q t12 w_11) w_9) w_7) w_5) w_3) w_1) w_1) w
theorem eq32 (v_s : Value) (Q : Value → World → Prop) (w : World) : semF Try.prog 32 [v_s] Q w = S32 v_s Q w := by kernel_rfl
theorem ref32 {v_s : Value} {Q : Value → World → Prop} {w : World} (h : S32 v_s Q w) : callS Try.prog 32 #[v_s] Q w :=
  callS_of mix (fun a w => Try.call32 a w) (by kernel_rfl) (by rw [eq32]; exact h)
-- (*commons/imap.Map[int]).lay
def S33 (v_m v_l : Value) (Q : Value → World → Prop) (w : World) : Prop :=
 callS Try.prog 40 #[v_l, (.func (.func 41) #[] #[])] (fun _ w_1 => 
 pur Try.prog (nilV v_m) fun t10 => 
 pur Try.prog (Instr.fieldAt 68 t10 0) fun t11 => 
 act Try.prog (thenU (Instr.storeAt 57 t11 (.slice none 0 0))) (fun _ w_2 => 
 pur Try.prog (Builtin.len_ #[57] 3 #[v_l]) fun t13 => 
 lp 1 (fun J => fun t14 w_3 => ∀ _j : Fr, 
  pur Try.prog (binS .lss 3 false false t14 t13) fun t15 => 
  condS t15
   (jn 0 (fun J_1 => 
   pur Try.prog (Instr.indexAt 57 v_l t14) fun t16 => 
   rd Try.prog (Instr.loadAt 60 t16) (fun t17 => 
   act Try.prog (Instr.alloc 60 true (.tuple #[])) (fun t5 w_4 => 
   act Try.prog (thenU (Instr.storeAt 60 t5 t17)) (fun _ w_5 => 
   pur Try.prog (nilV v_m) fun t19 => 
   pur Try.prog (Instr.fieldAt 68 t19 0) fun t20 => 
   rd Try.prog (Instr.loadAt 57 t20) (fun t21 => 
   pur Try.prog (Builtin.len_ #[57] 3 #[t21]) fun t22 => 
   pur Try.prog (binS .sub 3 false true t22 (.int .i64 1)) fun t23 => 
   pur Try.prog (binS .geq 3 false true t23 (.int .i64 0)) fun t25 => 
   gd t25 true (fun k w_6 => k v_m w_6) (fun t27_1 w_7 => 
   gd t25 true (fun k_1 w_8 => pur Try.prog (nilV t27_1) fun t28 => k_1 t28 w_8) (fun t28_1 w_9 => 
   gd t25 true (fun k_2 w_10 => pur Try.prog (Instr.fieldAt 68 t28_1 0) fun t29 => k_2 t29 w_10) (fun t29_1 w_11 => 
   gd t25 true (fun k_3 w_12 => rd Try.prog (Instr.loadAt 57 t29_1) (fun t30 => k_3 t30 w_12) w_12) (fun t30_1 w_13 => 
   gd t25 true (fun k_4 w_14 => k_4 t23 w_14) (fun t31_1 w_15 => 
   gd t25 true (fun k_5 w_16 => pur Try.prog (Instr.indexAt 57 t30_1 t31_1) fun t32 => k_5 t32 w_16) (fun t32_1 w_17 => 
   gd t25 true (fun k_6 w_18 => pur Try.prog (Instr.fieldAt 60 t32_1 0) fun t33 => k_6 t33 w_18) (fun t33_1 w_19 => 
   gd t25 true (fun k_7 w_20 => pur Try.prog (Instr.fieldAt 25 t33_1 1) fun t34 => k_7 t34 w_20) (fun t34_1 w_21 => 
   gd t25 true (fun k_8 w_22 => rd Try.prog (Instr.loadAt 3 t34_1) (fun t35 => k_8 t35 w_22) w_22) (fun t35_1 w_23 => 
   gd t25 true (fun k_9 w_24 => pur Try.prog (Instr.fieldAt 60 t5 0) fun t36 => k_9 t36 w_24) (fun t36_1 w_25 => 
   gd t25 true (fun k_10 w_26 => pur Try.prog (Instr.fieldAt 25 t36_1 0) fun t37 => k_10 t37 w_26) (fun t37_1 w_27 => 
   gd t25 true (fun k_11 w_28 => rd Try.prog (Instr.loadAt 3 t37_1) (fun t38 => k_11 t38 w_28) w_28) (fun t38_1 w_29 => 
   gd t25 true (fun k_12 w_30 => pur Try.prog (binS .eql 3 false false t35_1 t38_1) fun t39 => k_12 t39 w_30) (fun t39_1 w_31 => 
   pur Try.prog (pickS t25 t39_1 (.bool false)) fun t40 => 
   gd t40 true (fun k_13 w_32 => k_13 v_m w_32) (fun t42_1 w_33 => 
   gd t40 true (fun k_14 w_34 => pur Try.prog (nilV t42_1) fun t43 => k_14 t43 w_34) (fun t43_1 w_35 => 
   gd t40 true (fun k_15 w_36 => pur Try.prog (Instr.fieldAt 68 t43_1 0) fun t44 => k_15 t44 w_36) (fun t44_1 w_37 => 
   gd t40 true (fun k_16 w_38 => rd Try.prog (Instr.loadAt 57 t44_1) (fun t45 => k_16 t45 w_38) w_38) (fun t45_1 w_39 => 
   gd t40 true (fun k_17 w_40 => k_17 t23 w_40) (fun t46_1 w_41 => 
   gd t40 true (fun k_18 w_42 => pur Try.prog (Instr.indexAt 57 t45_1 t46_1) fun t47 => k_18 t47 w_42) (fun t47_1 w_43 => 
   gd t40 true (fun k_19 w_44 => pur Try.prog (Instr.fieldAt 60 t47_1 1) fun t48 => k_19 t48 w_44) (fun t48_1 w_45 => 
   gd t40 true (fun k_20 w_46 => rd Try.prog (Instr.loadAt 3 t48_1) (fun t49 => k_20 t49 w_46) w_46) (fun t49_1 w_47 => 
   gd t40 true (fun k_21 w_48 => pur Try.prog (Instr.fieldAt 60 t5 1) fun t50 => k_21 t50 w_48) (fun t50_1 w_49 => 
   gd t40 true (fun k_22 w_50 => rd Try.prog (Instr.loadAt 3 t50_1) (fun t51 => k_22 t51 w_50) w_50) (fun t51_1 w_51 => 
   gd t40 true (fun k_23 w_52 => pur Try.prog (binS .eql 3 false false t49_1 t51_1) fun t52 => k_23 t52 w_52) (fun t52_1 w_53 => 
   pur Try.prog (pickS t40 t52_1 (.bool false)) fun t53 => 
   condS t53
    (pur Try.prog (nilV v_m) fun t55 => 
    pur Try.prog (Instr.fieldAt 68 t55 0) fun t56 => 
    rd Try.prog (Instr.loadAt 57 t56) (fun t57 => 
    pur Try.prog (Instr.fieldAt 60 t5 0) fun t59 => 
    pur Try.prog (Instr.fieldAt 25 t59 1) fun t60 => 
    rd Try.prog (Instr.loadAt 3 t60) (fun t61 => 
    pur Try.prog (Instr.indexAt 57 t57 t23) fun t62 => 
    pur Try.prog (Instr.fieldAt 60 t62 0) fun t63 => 
    pur Try.prog (Instr.fieldAt 25 t63 1) fun t64 => 
    act Try.prog (thenU (Instr.storeAt 3 t64 t61)) (fun _ w_54 => 
    J_1  w_54) (World.drew w_53)) (World.drew w_53)) (World.drew w_53))
    (jn 0 (fun J_2 => 
     pur Try.prog (nilV v_m) fun t67 => 
     pur Try.prog (Instr.fieldAt 68 t67 0) fun t68 => 
     rd Try.prog (Instr.loadAt 60 t5) (fun t70 => 
     (rd Try.prog (Instr.loadAt 57 t68) (fun t69 => 
     act Try.prog (Instr.buildSlice 57 1 #[(0, t70)]) (fun t71 w_55 => 
     act Try.prog (Builtin.append_ #[57, 57] 57 #[t69, t71]) (fun t72 w_56 => 
     pur Try.prog (nilV v_m) fun t73 => 
     pur Try.prog (Instr.fieldAt 68 t73 0) fun t74 => 
     act Try.prog (thenU (Instr.storeAt 57 t74 t72)) (fun _ w_57 => 
     J_2  w_57) w_56) w_55) (World.drew w_53)) (World.drew w_53)
     ) ∧ (act Try.prog (Instr.buildSlice 57 1 #[(0, t70)]) (fun t71_1 w_58 => 
     rd Try.prog (Instr.loadAt 57 t68) (fun t69_1 => 
     act Try.prog (Builtin.append_ #[57, 57] 57 #[t69_1, t71_1]) (fun t72_1 w_59 => 
     pur Try.prog (nilV v_m) fun t73_1 => 
     pur Try.prog (Instr.fieldAt 68 t73_1 0) fun t74_1 => 
     act Try.prog (thenU (Instr.storeAt 57 t74_1 t72_1)) (fun _ w_60 => 
     J_2  w_60) w_59) w_58) w_58) (World.drew w_53))) (World.drew w_53))
    (fun  w_61 => ∀ _j : Fr, 
     J_1  w_61))) w_51) w_49) w_47) w_45) w_43) w_41) w_39) w_37) w_35) w_33) w_31) w_29) w_27) w_25) w_23) w_21) w_19) w_17) w_15) w_13) w_11) w_9) w_7) (World.drew w_5)) w_5) w_4) w_3) w_3)
  (fun  w_62 => ∀ _j : Fr, 
   pur Try.prog (binS .add 3 false true t14 (.int .i64 1)) fun t75 => 
   J t75 w_62))
   (Q (.tuple #[]) w_3)) [(.int .i64 0)] w_2) w_1) w
theorem eq33 (v_m v_l : Value) (Q : Value → World → Prop) (w : World) : semF Try.prog 33 [v_m, v_l] Q w = S33 v_m v_l Q w := by kernel_rfl
theorem ref33 {v_m v_l : Value} {Q : Value → World → Prop} {w : World} (h : S33 v_m v_l Q w) : callS Try.prog 33 #[v_m, v_l] Q w :=
  callS_of mix (fun a w => Try.call33 a w) (by kernel_rfl) (by rw [eq33]; exact h)
-- (*commons/imap.Map[int]).without
def S34 (v_m v_s : Value) (Q : Value → World → Prop) (w : World) : Prop :=
 act Try.prog (Instr.box 25 v_s) (fun t3 w_1 => 
 pur Try.prog (nilV v_m) fun t11 => 
 pur Try.prog (Instr.fieldAt 68 t11 0) fun t12 => 
 rd Try.prog (Instr.loadAt 57 t12) (fun t13 => 
 pur Try.prog (Builtin.len_ #[57] 3 #[t13]) fun t14 => 
 lp 2 (fun J => fun v_out t15 w_2 => ∀ _j : Fr, 
  pur Try.prog (binS .lss 3 false false t15 t14) fun t16 => 
  condS t16
   (pur Try.prog (Instr.indexAt 57 t13 t15) fun t17 => 
  rd Try.prog (Instr.loadAt 60 t17) (fun t18 => 
  act Try.prog (Instr.alloc 60 true (.tuple #[])) (fun t7 w_3 => 
  act Try.prog (thenU (Instr.storeAt 60 t7 t18)) (fun _ w_4 => 
  pur Try.prog (Instr.fieldAt 60 t7 0) fun t19 => 
  rd Try.prog (Instr.loadAt 25 t19) (fun t20 => 
  act Try.prog (Instr.buildSlice 71 1 #[(0, t20)]) (fun t21 w_5 => 
  rd Try.prog (Instr.loadAt 25 t3) (fun t22 => 
  act Try.prog (Instr.buildSlice 71 1 #[(0, t22)]) (fun t23 w_6 => 
  callS Try.prog 43 #[t21, t23] (fun t24 w_7 => 
  pur Try.prog (Builtin.len_ #[71] 3 #[t24]) fun t25 => 
  lp 2 (fun J_1 => fun v_out_1 t26 w_8 => ∀ _j : Fr, 
   pur Try.prog (binS .lss 3 false false t26 t25) fun t27 => 
   condS t27
    (pur Try.prog (Instr.indexAt 71 t24 t26) fun t28 => 
   rd Try.prog (Instr.loadAt 25 t28) (fun t29 => 
   act Try.prog (Instr.alloc 25 true (.tuple #[])) (fun t9 w_9 => 
   act Try.prog (thenU (Instr.storeAt 25 t9 t29)) (fun _ w_10 => 
   rd Try.prog (Instr.loadAt 25 t9) (fun t31 => 
   pur Try.prog (Instr.fieldAt 60 t7 1) fun t32 => 
   rd Try.prog (Instr.loadAt 3 t32) (fun t33 => 
   pur Try.prog (Instr.build 60 #[(0, t31), (1, t33)]) fun t34 => 
   act Try.prog (Instr.buildSlice 57 1 #[(0, t34)]) (fun t35 w_11 => 
   act Try.prog (Builtin.append_ #[57, 57] 57 #[v_out_1, t35]) (fun t36 w_12 => 
   pur Try.prog (binS .add 3 false true t26 (.int .i64 1)) fun t37 => 
   J_1 t36 t37 w_12) w_11) w_10) w_10) w_10) w_9) w_8) w_8)
    (pur Try.prog (binS .add 3 false true t15 (.int .i64 1)) fun t38 => 
  J v_out_1 t38 w_8)) [v_out, (.int .i64 0)] w_7) w_6) w_5) w_5) w_4) w_4) w_3) w_2) w_2)
   (Q v_out w_2)) [(.slice none 0 0), (.int .i64 0)] w_1) w_1) w
theorem eq34 (v_m v_s : Value) (Q : Value → World → Prop) (w : World) : semF Try.prog 34 [v_m, v_s] Q w = S34 v_m v_s Q w := by kernel_rfl
theorem ref34 {v_m v_s : Value} {Q : Value → World → Prop} {w : World} (h : S34 v_m v_s Q w) : callS Try.prog 34 #[v_m, v_s] Q w :=
  callS_of mix (fun a w => Try.call34 a w) (by kernel_rfl) (by rw [eq34]; exact h)
-- commons/commonsref1.Valid
def S35 (v_s : Value) (Q : Value → World → Prop) (w : World) : Prop :=
 act Try.prog (Instr.box 25 v_s) (fun t1 w_1 => 
 pur Try.prog (Instr.fieldAt 25 t1 0) fun t3 => 
 rd Try.prog (Instr.loadAt 3 t3) (fun t4 => 
 pur Try.prog (binS .geq 3 false true t4 (.int .i64 0)) fun t5 => 
 gd t5 true (fun k w_2 => pur Try.prog (Instr.fieldAt 25 t1 0) fun t7 => k t7 w_2) (fun t7_1 w_3 => 
 gd t5 true (fun k_1 w_4 => rd Try.prog (Instr.loadAt 3 t7_1) (fun t8 => k_1 t8 w_4) w_4) (fun t8_1 w_5 => 
 gd t5 true (fun k_2 w_6 => pur Try.prog (Instr.fieldAt 25 t1 1) fun t9 => k_2 t9 w_6) (fun t9_1 w_7 => 
 gd t5 true (fun k_3 w_8 => rd Try.prog (Instr.loadAt 3 t9_1) (fun t10 => k_3 t10 w_8) w_8) (fun t10_1 w_9 => 
 gd t5 true (fun k_4 w_10 => pur Try.prog (binS .lss 3 false false t8_1 t10_1) fun t11 => k_4 t11 w_10) (fun t11_1 w_11 => 
 pur Try.prog (pickS t5 t11_1 (.bool false)) fun t12 => 
 Q t12 w_11) w_9) w_7) w_5) w_3) w_1) w_1) w
theorem eq35 (v_s : Value) (Q : Value → World → Prop) (w : World) : semF Try.prog 35 [v_s] Q w = S35 v_s Q w := by kernel_rfl
theorem ref35 {v_s : Value} {Q : Value → World → Prop} {w : World} (h : S35 v_s Q w) : callS Try.prog 35 #[v_s] Q w :=
  callS_of mix (fun a w => Try.call35 a w) (by kernel_rfl) (by rw [eq35]; exact h)
-- (*commons/imap.Map[int]).All
def S36 (v_m : Value) (Q : Value → World → Prop) (w : World) : Prop :=
 rd Try.prog (binS .eql 43 false true v_m (.pointer none)) (fun t4 => 
 condS t4
  (Q (.slice none 0 0) w)
  (pur Try.prog (nilV v_m) fun t6 => 
 pur Try.prog (Instr.fieldAt 68 t6 0) fun t7 => 
 rd Try.prog (Instr.loadAt 57 t7) (fun t8 => 
 callS Try.prog 44 #[t8] (fun t9 w_1 => 
 Q t9 w_1) w) w)) w
theorem eq36 (v_m : Value) (Q : Value → World → Prop) (w : World) : semF Try.prog 36 [v_m] Q w = S36 v_m Q w := by kernel_rfl
theorem ref36 {v_m : Value} {Q : Value → World → Prop} {w : World} (h : S36 v_m Q w) : callS Try.prog 36 #[v_m] Q w :=
  callS_of mix (fun a w => Try.call36 a w) (by kernel_rfl) (by rw [eq36]; exact h)
-- commons/mode.Raise
def S37 (v_m v_l : Value) (Q : Value → World → Prop) (w : World) : Prop :=
 act Try.prog (Instr.box 27 v_l) (fun t3 w_1 => 
 pur Try.prog (Instr.fieldAt 27 t3 0) fun t8 => 
 rd Try.prog (Instr.loadAt 25 t8) (fun t9 => 
 callS Try.prog 28 #[v_m, t9] (fun t10 w_2 => 
 pur Try.prog (Instr.fieldAt 27 t3 0) fun t12 => 
 rd Try.prog (Instr.loadAt 25 t12) (fun t13 => 
 pur Try.prog (Instr.fieldAt 27 t3 1) fun t14 => 
 rd Try.prog (Instr.loadAt 3 t14) (fun t15 => 
 callS Try.prog 22 #[v_m, t13, t15] (fun _ w_3 => 
 pur Try.prog (Builtin.len_ #[57] 3 #[t10]) fun t18 => 
 lp 1 (fun J => fun t19 w_4 => ∀ _j : Fr, 
  pur Try.prog (binS .lss 3 false false t19 t18) fun t20 => 
  condS t20
   (pur Try.prog (Instr.indexAt 57 t10 t19) fun t21 => 
  rd Try.prog (Instr.loadAt 60 t21) (fun t22 => 
  act Try.prog (Instr.alloc 60 true (.tuple #[])) (fun t6 w_5 => 
  act Try.prog (thenU (Instr.storeAt 60 t6 t22)) (fun _ w_6 => 
  ∃ S : World → Prop, S (World.drew w_6) ∧ 
  pur Try.prog (Instr.fieldAt 60 t6 0) fun t24 => 
  hld Try.prog S (Instr.loadAt 25 t24) fun t25 => 
  pur Try.prog (Instr.fieldAt 60 t6 1) fun t26 => 
  hld Try.prog S (Instr.loadAt 3 t26) fun t27 => 
  pur Try.prog (Instr.fieldAt 27 t3 1) fun t28 => 
  hld Try.prog S (Instr.loadAt 3 t28) fun t29 => 
  callS Try.prog 16 #[t27, t29] (fun t30 w_7 => S w_7 ∧ 
  callS Try.prog 22 #[v_m, t25, t30] (fun _ w_8 => S w_8 ∧ 
  pur Try.prog (binS .add 3 false true t19 (.int .i64 1)) fun t32 => 
  J t32 w_8) w_7) (World.drew w_6)) w_5) w_4) w_4)
   (Q (.tuple #[]) w_4)) [(.int .i64 0)] w_3) w_2) w_2) w_2) w_1) w_1) w
theorem eq37 (v_m v_l : Value) (Q : Value → World → Prop) (w : World) : semF Try.prog 37 [v_m, v_l] Q w = S37 v_m v_l Q w := by kernel_rfl
theorem ref37 {v_m v_l : Value} {Q : Value → World → Prop} {w : World} (h : S37 v_m v_l Q w) : callS Try.prog 37 #[v_m, v_l] Q w :=
  callS_of mix (fun a w => Try.call37 a w) (by kernel_rfl) (by rw [eq37]; exact h)
-- commons/span.Meet
def S38 (v_a v_b : Value) (Q : Value → World → Prop) (w : World) : Prop :=
 act Try.prog (Instr.box 25 v_a) (fun t2 w_1 => 
 act Try.prog (Instr.box 25 v_b) (fun t3 w_2 => 
 act Try.prog (Instr.alloc 25 true (.tuple #[])) (fun t4 w_3 => 
 pur Try.prog (Instr.fieldAt 25 t2 0) fun t7 => 
 rd Try.prog (Instr.loadAt 3 t7) (fun t8 => 
 pur Try.prog (Instr.fieldAt 25 t3 0) fun t9 => 
 rd Try.prog (Instr.loadAt 3 t9) (fun t10 => 
 pur Try.prog (Builtin.max_ #[3, 3] 3 #[t8, t10]) fun t11 => 
 pur Try.prog (Instr.fieldAt 25 t2 1) fun t12 => 
 rd Try.prog (Instr.loadAt 3 t12) (fun t13 => 
 pur Try.prog (Instr.fieldAt 25 t3 1) fun t14 => 
 rd Try.prog (Instr.loadAt 3 t14) (fun t15 => 
 pur Try.prog (Builtin.min_ #[3, 3] 3 #[t13, t15]) fun t16 => 
 pur Try.prog (Instr.build 25 #[(0, t11), (1, t16)]) fun t17 => 
 act Try.prog (Instr.alloc 25 true (.tuple #[])) (fun t6 w_4 => 
 act Try.prog (thenU (Instr.storeAt 25 t6 t17)) (fun _ w_5 => 
 rd Try.prog (Instr.loadAt 25 t2) (fun t18 => 
 callS Try.prog 32 #[t18] (fun t19 w_6 => 
 pur Try.prog (Op.unary .not t19) fun t20 => 
 gd t20 false (fun k w_7 => rd Try.prog (Instr.loadAt 25 t3) (fun t22 => k t22 w_7) w_7) (fun t22_1 w_8 => 
 gd t20 false (fun k_1 w_9 => callS Try.prog 32 #[t22_1] (fun t23 w_10 => k_1 t23 w_10) w_9) (fun t23_1 w_11 => 
 gd t20 false (fun k_2 w_12 => pur Try.prog (Op.unary .not t23_1) fun t24 => k_2 t24 w_12) (fun t24_1 w_13 => 
 pur Try.prog (pickS t20 (.bool true) t24_1) fun t25 => 
 gd t25 false (fun k_3 w_14 => rd Try.prog (Instr.loadAt 25 t6) (fun t27 => k_3 t27 w_14) w_14) (fun t27_1 w_15 => 
 gd t25 false (fun k_4 w_16 => callS Try.prog 32 #[t27_1] (fun t28 w_17 => k_4 t28 w_17) w_16) (fun t28_1 w_18 => 
 gd t25 false (fun k_5 w_19 => pur Try.prog (Op.unary .not t28_1) fun t29 => k_5 t29 w_19) (fun t29_1 w_20 => 
 pur Try.prog (pickS t25 (.bool true) t29_1) fun t30 => 
 condS t30
  (pur Try.prog (Instr.build 25 #[]) fun t31 => 
  act Try.prog (thenU (Instr.storeAt 25 t4 t31)) (fun _ w_21 => 
  rd Try.prog (resL 25 t4) (fun r => Q (.tuple #[r, (.bool false)]) w_21) w_21) w_20)
  (rd Try.prog (Instr.loadAt 25 t6) (fun t32 => 
 act Try.prog (thenU (Instr.storeAt 25 t4 t32)) (fun _ w_22 => 
 rd Try.prog (resL 25 t4) (fun r_1 => Q (.tuple #[r_1, (.bool true)]) w_22) w_22) w_20) w_20)) w_18) w_15) w_13) w_11) w_8) w_6) w_5) w_5) w_4) w_3) w_3) w_3) w_3) w_3) w_2) w_1) w
theorem eq38 (v_a v_b : Value) (Q : Value → World → Prop) (w : World) : semF Try.prog 38 [v_a, v_b] Q w = S38 v_a v_b Q w := by kernel_rfl
theorem ref38 {v_a v_b : Value} {Q : Value → World → Prop} {w : World} (h : S38 v_a v_b Q w) : callS Try.prog 38 #[v_a, v_b] Q w :=
  callS_of mix (fun a w => Try.call38 a w) (by kernel_rfl) (by rw [eq38]; exact h)
-- (commons/commonsref1.Map).Clear
def S39 (v_m v_s : Value) (Q : Value → World → Prop) (w : World) : Prop :=
 act Try.prog (Instr.box 25 v_s) (fun t3 w_1 => 
 rd Try.prog (Instr.loadAt 25 t3) (fun t8 => 
 callS Try.prog 35 #[t8] (fun t9 w_2 => 
 pur Try.prog (Op.unary .not t9) fun t10 => 
 condS t10
  (Q v_m w_2)
  (lp 2 (fun J => fun v_out v_i w_3 => ∀ _j : Fr, 
  pur Try.prog (Builtin.len_ #[45] 3 #[v_m]) fun t14 => 
  pur Try.prog (binS .lss 3 false false v_i t14) fun t15 => 
  condS t15
   (jn 1 (fun J_1 => 
   pur Try.prog (Instr.indexAt 45 v_m v_i) fun t20 => 
   rd Try.prog (Instr.loadAt 54 t20) (fun t21 => 
   act Try.prog (Instr.alloc 54 true (.tuple #[])) (fun t7 w_4 => 
   act Try.prog (thenU (Instr.storeAt 54 t7 t21)) (fun _ w_5 => 
   jn 1 (fun J_2 => 
    pur Try.prog (Instr.fieldAt 54 t7 0) fun t22 => 
    pur Try.prog (Instr.fieldAt 25 t22 0) fun t23 => 
    rd Try.prog (Instr.loadAt 3 t23) (fun t24 => 
    pur Try.prog (Instr.fieldAt 25 t3 0) fun t25 => 
    rd Try.prog (Instr.loadAt 3 t25) (fun t26 => 
    pur Try.prog (binS .lss 3 false false t24 t26) fun t27 => 
    condS t27
     (pur Try.prog (Instr.fieldAt 54 t7 0) fun t29 => 
     pur Try.prog (Instr.fieldAt 25 t29 0) fun t30 => 
     rd Try.prog (Instr.loadAt 3 t30) (fun t31 => 
     pur Try.prog (Instr.fieldAt 54 t7 0) fun t32 => 
     pur Try.prog (Instr.fieldAt 25 t32 1) fun t33 => 
     rd Try.prog (Instr.loadAt 3 t33) (fun t34 => 
     pur Try.prog (Instr.fieldAt 25 t3 0) fun t35 => 
     rd Try.prog (Instr.loadAt 3 t35) (fun t36 => 
     pur Try.prog (Builtin.min_ #[3, 3] 3 #[t34, t36]) fun t37 => 
     pur Try.prog (Instr.build 25 #[(0, t31), (1, t37)]) fun t38 => 
     pur Try.prog (Instr.fieldAt 54 t7 1) fun t39 => 
     rd Try.prog (Instr.loadAt 3 t39) (fun t40 => 
     pur Try.prog (Instr.build 54 #[(0, t38), (1, t40)]) fun t41 => 
     act Try.prog (Instr.buildSlice 45 1 #[(0, t41)]) (fun t42 w_6 => 
     act Try.prog (Builtin.append_ #[45, 45] 45 #[v_out, t42]) (fun t43 w_7 => 
     J_2 t43 w_7) w_6) w_5) w_5) w_5) w_5) w_5)
     (J_2 v_out w_5)) w_5) w_5)
   (fun v_out_1 w_8 => ∀ _j : Fr, 
    pur Try.prog (Instr.fieldAt 54 t7 0) fun t44 => 
    pur Try.prog (Instr.fieldAt 25 t44 1) fun t45 => 
    rd Try.prog (Instr.loadAt 3 t45) (fun t46 => 
    pur Try.prog (Instr.fieldAt 25 t3 1) fun t47 => 
    rd Try.prog (Instr.loadAt 3 t47) (fun t48 => 
    pur Try.prog (binS .gtr 3 false false t46 t48) fun t49 => 
    condS t49
     (pur Try.prog (Instr.fieldAt 54 t7 0) fun t51 => 
     pur Try.prog (Instr.fieldAt 25 t51 0) fun t52 => 
     rd Try.prog (Instr.loadAt 3 t52) (fun t53 => 
     pur Try.prog (Instr.fieldAt 25 t3 1) fun t54 => 
     rd Try.prog (Instr.loadAt 3 t54) (fun t55 => 
     pur Try.prog (Builtin.max_ #[3, 3] 3 #[t53, t55]) fun t56 => 
     pur Try.prog (Instr.fieldAt 54 t7 0) fun t57 => 
     pur Try.prog (Instr.fieldAt 25 t57 1) fun t58 => 
     rd Try.prog (Instr.loadAt 3 t58) (fun t59 => 
     pur Try.prog (Instr.build 25 #[(0, t56), (1, t59)]) fun t60 => 
     pur Try.prog (Instr.fieldAt 54 t7 1) fun t61 => 
     rd Try.prog (Instr.loadAt 3 t61) (fun t62 => 
     pur Try.prog (Instr.build 54 #[(0, t60), (1, t62)]) fun t63 => 
     act Try.prog (Instr.buildSlice 45 1 #[(0, t63)]) (fun t64 w_9 => 
     act Try.prog (Builtin.append_ #[45, 45] 45 #[v_out_1, t64]) (fun t65 w_10 => 
     J_1 t65 w_10) w_9) w_8) w_8) w_8) w_8) w_8)
     (J_1 v_out_1 w_8)) w_8) w_8)) w_4) w_3) w_3)
  (fun v_out_2 w_11 => ∀ _j : Fr, 
   pur Try.prog (binS .add 3 false true v_i (.int .i64 1)) fun t17 => 
   J v_out_2 t17 w_11))
   (Q v_out w_3)) [(.slice none 0 0), (.int .i64 0)] w_2)) w_1) w_1) w
theorem eq39 (v_m v_s : Value) (Q : Value → World → Prop) (w : World) : semF Try.prog 39 [v_m, v_s] Q w = S39 v_m v_s Q w := by kernel_rfl
theorem ref39 {v_m v_s : Value} {Q : Value → World → Prop} {w : World} (h : S39 v_m v_s Q w) : callS Try.prog 39 #[v_m, v_s] Q w :=
  callS_of mix (fun a w => Try.call39 a w) (by kernel_rfl) (by rw [eq39]; exact h)
-- slices.SortFunc[[]commons/imap.Part[int],commons/imap.Part[int]]
def S40 (v_x v_cmp : Value) (Q : Value → World → Prop) (w : World) : Prop :=
 pur Try.prog (Builtin.len_ #[57] 3 #[v_x]) fun t6 => 
 pur Try.prog (convert 3 76 t6) fun t10 => 
 callS Try.prog 46 #[t10] (fun t11 w_1 => 
 callS Try.prog 45 #[v_x, (.int .i64 0), t6, t11, v_cmp] (fun _ w_2 => 
 Q (.tuple #[]) w_2) w_1) w
theorem eq40 (v_x v_cmp : Value) (Q : Value → World → Prop) (w : World) : semF Try.prog 40 [v_x, v_cmp] Q w = S40 v_x v_cmp Q w := by kernel_rfl
theorem ref40 {v_x v_cmp : Value} {Q : Value → World → Prop} {w : World} (h : S40 v_x v_cmp Q w) : callS Try.prog 40 #[v_x, v_cmp] Q w :=
  callS_of mix (fun a w => Try.call40 a w) (by kernel_rfl) (by rw [eq40]; exact h)
-- (*commons/imap.Map[int]).lay$1
def S41 (v_a v_b : Value) (Q : Value → World → Prop) (w : World) : Prop :=
 act Try.prog (Instr.box 60 v_a) (fun t2 w_1 => 
 act Try.prog (Instr.box 60 v_b) (fun t3 w_2 => 
 pur Try.prog (Instr.fieldAt 60 t2 0) fun t5 => 
 pur Try.prog (Instr.fieldAt 25 t5 0) fun t6 => 
 rd Try.prog (Instr.loadAt 3 t6) (fun t7 => 
 pur Try.prog (Instr.fieldAt 60 t3 0) fun t8 => 
 pur Try.prog (Instr.fieldAt 25 t8 0) fun t9 => 
 rd Try.prog (Instr.loadAt 3 t9) (fun t10 => 
 callS Try.prog 42 #[t7, t10] (fun t11 w_3 => 
 Q t11 w_3) w_2) w_2) w_2) w_1) w
theorem eq41 (v_a v_b : Value) (Q : Value → World → Prop) (w : World) : semF Try.prog 41 [v_a, v_b] Q w = S41 v_a v_b Q w := by kernel_rfl
theorem ref41 {v_a v_b : Value} {Q : Value → World → Prop} {w : World} (h : S41 v_a v_b Q w) : callS Try.prog 41 #[v_a, v_b] Q w :=
  callS_of mix (fun a w => Try.call41 a w) (by kernel_rfl) (by rw [eq41]; exact h)
-- cmp.Compare[int]
def S42 (v_x v_y : Value) (Q : Value → World → Prop) (w : World) : Prop :=
 callS Try.prog 47 #[v_x] (fun t8 w_1 => 
 callS Try.prog 47 #[v_y] (fun t10 w_2 => 
 condS t8
  (condS t10
   (Q (.int .i64 0) w_2)
   (Q (.int .i64 (-1)) w_2))
  (condS t10
  (Q (.int .i64 1) w_2)
  (pur Try.prog (binS .lss 3 false false v_x v_y) fun t16 => 
 condS t16
  (Q (.int .i64 (-1)) w_2)
  (pur Try.prog (binS .gtr 3 false false v_x v_y) fun t19 => 
 condS t19
  (Q (.int .i64 1) w_2)
  (Q (.int .i64 0) w_2))))) w_1) w
theorem eq42 (v_x v_y : Value) (Q : Value → World → Prop) (w : World) : semF Try.prog 42 [v_x, v_y] Q w = S42 v_x v_y Q w := by kernel_rfl
theorem ref42 {v_x v_y : Value} {Q : Value → World → Prop} {w : World} (h : S42 v_x v_y Q w) : callS Try.prog 42 #[v_x, v_y] Q w :=
  callS_of mix (fun a w => Try.call42 a w) (by kernel_rfl) (by rw [eq42]; exact h)
-- commons/span.Minus
def S43 (v_a v_b : Value) (Q : Value → World → Prop) (w : World) : Prop :=
 callS Try.prog 48 #[v_a] (fun t12 w_1 => 
 callS Try.prog 48 #[v_b] (fun t14 w_2 => 
 pur Try.prog (Builtin.len_ #[71] 3 #[t14]) fun t15 => 
 lp 2 (fun J => fun v_out t16 w_3 => ∀ _j : Fr, 
  pur Try.prog (binS .lss 3 false false t16 t15) fun t17 => 
  condS t17
   (pur Try.prog (Instr.indexAt 71 t14 t16) fun t18 => 
  rd Try.prog (Instr.loadAt 25 t18) (fun t19 => 
  act Try.prog (Instr.alloc 25 true (.tuple #[])) (fun t7 w_4 => 
  act Try.prog (thenU (Instr.storeAt 25 t7 t19)) (fun _ w_5 => 
  pur Try.prog (Builtin.len_ #[71] 3 #[v_out]) fun t21 => 
  lp 2 (fun J_1 => fun v_left t22 w_6 => ∀ _j : Fr, 
   pur Try.prog (binS .lss 3 false false t22 t21) fun t23 => 
   condS t23
    (jn 1 (fun J_2 => 
    pur Try.prog (Instr.indexAt 71 v_out t22) fun t24 => 
    rd Try.prog (Instr.loadAt 25 t24) (fun t25 => 
    act Try.prog (Instr.alloc 25 true (.tuple #[])) (fun t10 w_7 => 
    act Try.prog (thenU (Instr.storeAt 25 t10 t25)) (fun _ w_8 => 
    rd Try.prog (Instr.loadAt 25 t10) (fun t26 => 
    rd Try.prog (Instr.loadAt 25 t7) (fun t27 => 
    callS Try.prog 49 #[t26, t27] (fun t28 w_9 => 
    pur Try.prog (Op.unary .not t28) fun t29 => 
    condS t29
     (rd Try.prog (Instr.loadAt 25 t10) (fun t31 => 
     act Try.prog (Instr.buildSlice 71 1 #[(0, t31)]) (fun t32 w_10 => 
     act Try.prog (Builtin.append_ #[71, 71] 71 #[v_left, t32]) (fun t33 w_11 => 
     J_2 t33 w_11) w_10) w_9) w_9)
     (pur Try.prog (Instr.fieldAt 25 t10 0) fun t35 => 
    rd Try.prog (Instr.loadAt 3 t35) (fun t36 => 
    pur Try.prog (Instr.fieldAt 25 t7 0) fun t37 => 
    rd Try.prog (Instr.loadAt 3 t37) (fun t38 => 
    pur Try.prog (Instr.build 25 #[(0, t36), (1, t38)]) fun t39 => 
    pur Try.prog (Instr.fieldAt 25 t7 1) fun t40 => 
    rd Try.prog (Instr.loadAt 3 t40) (fun t41 => 
    pur Try.prog (Instr.fieldAt 25 t10 1) fun t42 => 
    rd Try.prog (Instr.loadAt 3 t42) (fun t43 => 
    pur Try.prog (Instr.build 25 #[(0, t41), (1, t43)]) fun t44 => 
    act Try.prog (Instr.buildSlice 71 2 #[(0, t39), (1, t44)]) (fun t45 w_12 => 
    act Try.prog (Builtin.append_ #[71, 71] 71 #[v_left, t45]) (fun t46 w_13 => 
    J_2 t46 w_13) w_12) w_9) w_9) w_9) w_9) w_9)) w_8) w_8) w_8) w_7) w_6) w_6)
   (fun v_left_1 w_14 => ∀ _j : Fr, 
    pur Try.prog (binS .add 3 false true t22 (.int .i64 1)) fun t47 => 
    J_1 v_left_1 t47 w_14))
    (callS Try.prog 48 #[v_left] (fun t49 w_15 => 
  pur Try.prog (binS .add 3 false true t16 (.int .i64 1)) fun t50 => 
  J t49 t50 w_15) w_6)) [(.slice none 0 0), (.int .i64 0)] w_5) w_4) w_3) w_3)
   (Q v_out w_3)) [t12, (.int .i64 0)] w_2) w_1) w
theorem eq43 (v_a v_b : Value) (Q : Value → World → Prop) (w : World) : semF Try.prog 43 [v_a, v_b] Q w = S43 v_a v_b Q w := by kernel_rfl
theorem ref43 {v_a v_b : Value} {Q : Value → World → Prop} {w : World} (h : S43 v_a v_b Q w) : callS Try.prog 43 #[v_a, v_b] Q w :=
  callS_of mix (fun a w => Try.call43 a w) (by kernel_rfl) (by rw [eq43]; exact h)
-- slices.Clone[[]commons/imap.Part[int],commons/imap.Part[int]]
def S44 (v_s : Value) (Q : Value → World → Prop) (w : World) : Prop :=
 rd Try.prog (binS .eql 57 false true v_s (.slice none 0 0)) (fun t4 => 
 condS t4
  (Q (.slice none 0 0) w)
  (act Try.prog (Instr.buildSlice 57 0 #[]) (fun t5 w_1 => 
 act Try.prog (Builtin.append_ #[57, 57] 57 #[t5, v_s]) (fun t7 w_2 => 
 Q t7 w_2) w_1) w)) w
theorem eq44 (v_s : Value) (Q : Value → World → Prop) (w : World) : semF Try.prog 44 [v_s] Q w = S44 v_s Q w := by kernel_rfl
theorem ref44 {v_s : Value} {Q : Value → World → Prop} {w : World} (h : S44 v_s Q w) : callS Try.prog 44 #[v_s] Q w :=
  callS_of mix (fun a w => Try.call44 a w) (by kernel_rfl) (by rw [eq44]; exact h)
-- slices.pdqsortCmpFunc[commons/imap.Part[int]]
def S45 (v_data v_a v_b v_limit v_cmp : Value) (Q : Value → World → Prop) (w : World) : Prop :=
 lp 5 (fun J => fun v_a_1 v_b_1 v_limit_1 v_wasBalanced v_wasPartitioned w_1 => ∀ _j : Fr, 
  pur Try.prog (binS .sub 3 false false v_b_1 v_a_1) fun t23 => 
  pur Try.prog (binS .leq 3 false true t23 (.int .i64 12)) fun t25 => 
  condS t25
   (callS Try.prog 50 #[v_data, v_a_1, v_b_1, v_cmp] (fun _ w_2 => 
   Q (.tuple #[]) w_2) w_1)
   (pur Try.prog (binS .eql 3 false true v_limit_1 (.int .i64 0)) fun t32 => 
  condS t32
   (callS Try.prog 51 #[v_data, v_a_1, v_b_1, v_cmp] (fun _ w_3 => 
   Q (.tuple #[]) w_3) w_1)
   (jn 1 (fun J_1 => 
   pur Try.prog (Op.unary .not v_wasBalanced) fun t39 => 
   condS t39
    (callS Try.prog 52 #[v_data, v_a_1, v_b_1, v_cmp] (fun _ w_4 => 
    pur Try.prog (binS .sub 3 false true v_limit_1 (.int .i64 1)) fun t46 => 
    J_1 t46 w_4) w_1)
    (J_1 v_limit_1 w_1))
  (fun v_limit_2 w_5 => ∀ _j : Fr, 
   callS Try.prog 53 #[v_data, v_a_1, v_b_1, v_cmp] (fun t52 w_6 => 
   pur Try.prog (Instr.extract t52 0) fun t53 => 
   pur Try.prog (Instr.extract t52 1) fun t54 => 
   jn 2 (fun J_2 => 
    pur Try.prog (binS .eql 80 false true t54 (.int .i64 2)) fun t56 => 
    condS t56
     (callS Try.prog 54 #[v_data, v_a_1, v_b_1, v_cmp] (fun _ w_7 => 
     pur Try.prog (binS .sub 3 false true v_b_1 (.int .i64 1)) fun t63 => 
     pur Try.prog (binS .sub 3 false false t53 v_a_1) fun t66 => 
     pur Try.prog (binS .sub 3 false false t63 t66) fun t67 => 
     J_2 t67 (.int .i64 1) w_7) w_6)
     (J_2 t53 t54 w_6))
   (fun v_pivot v_hint w_8 => ∀ _j : Fr, 
    jn 0 (fun J_3 => 
     gd v_wasBalanced true (fun k w_9 => k v_wasPartitioned w_9) (fun t70_1 w_10 => 
     pur Try.prog (pickS v_wasBalanced t70_1 (.bool false)) fun t71 => 
     gd t71 true (fun k_1 w_11 => k_1 v_hint w_11) (fun t73_1 w_12 => 
     gd t71 true (fun k_2 w_13 => pur Try.prog (binS .eql 80 false true t73_1 (.int .i64 1)) fun t74 => k_2 t74 w_13) (fun t74_1 w_14 => 
     pur Try.prog (pickS t71 t74_1 (.bool false)) fun t75 => 
     condS t75
      (callS Try.prog 55 #[v_data, v_a_1, v_b_1, v_cmp] (fun t80 w_15 => 
      condS t80
       (Q (.tuple #[]) w_15)
       (J_3  w_15)) w_14)
      (J_3  w_14)) w_12) w_10) w_8)
    (fun  w_16 => ∀ _j : Fr, 
     pur Try.prog (binS .gtr 3 false true v_a_1 (.int .i64 0)) fun t82 => 
     gd t82 true (fun k_3 w_17 => k_3 v_cmp w_17) (fun t84_1 w_18 => 
     gd t82 true (fun k_4 w_19 => k_4 v_data w_19) (fun t85_1 w_20 => 
     gd t82 true (fun k_5 w_21 => k_5 v_a_1 w_21) (fun t86_1 w_22 => 
     gd t82 true (fun k_6 w_23 => pur Try.prog (binS .sub 3 false true t86_1 (.int .i64 1)) fun t87 => k_6 t87 w_23) (fun t87_1 w_24 => 
     gd t82 true (fun k_7 w_25 => pur Try.prog (Instr.indexAt 57 t85_1 t87_1) fun t88 => k_7 t88 w_25) (fun t88_1 w_26 => 
     gd t82 true (fun k_8 w_27 => rd Try.prog (Instr.loadAt 60 t88_1) (fun t89 => k_8 t89 w_27) w_27) (fun t89_1 w_28 => 
     gd t82 true (fun k_9 w_29 => k_9 v_data w_29) (fun t90_1 w_30 => 
     gd t82 true (fun k_10 w_31 => k_10 v_pivot w_31) (fun t91_1 w_32 => 
     gd t82 true (fun k_11 w_33 => pur Try.prog (Instr.indexAt 57 t90_1 t91_1) fun t92 => k_11 t92 w_33) (fun t92_1 w_34 => 
     gd t82 true (fun k_12 w_35 => rd Try.prog (Instr.loadAt 60 t92_1) (fun t93 => k_12 t93 w_35) w_35) (fun t93_1 w_36 => 
     gd t82 true (fun k_13 w_37 => callF Try.prog t84_1 #[t89_1, t93_1] (fun t94 w_38 => k_13 t94 w_38) w_37) (fun t94_1 w_39 => 
     gd t82 true (fun k_14 w_40 => pur Try.prog (binS .lss 3 false true t94_1 (.int .i64 0)) fun t95 => k_14 t95 w_40) (fun t95_1 w_41 => 
     gd t82 true (fun k_15 w_42 => pur Try.prog (Op.unary .not t95_1) fun t96 => k_15 t96 w_42) (fun t96_1 w_43 => 
     pur Try.prog (pickS t82 t96_1 (.bool false)) fun t97 => 
     condS t97
      (callS Try.prog 56 #[v_data, v_a_1, v_b_1, v_pivot, v_cmp] (fun t103 w_44 => 
      J t103 v_b_1 v_limit_2 v_wasBalanced v_wasPartitioned w_44) w_43)
      (callS Try.prog 57 #[v_data, v_a_1, v_b_1, v_pivot, v_cmp] (fun t111 w_45 => 
     pur Try.prog (Instr.extract t111 0) fun t112 => 
     pur Try.prog (Instr.extract t111 1) fun t113 => 
     pur Try.prog (binS .sub 3 false false t112 v_a_1) fun t117 => 
     pur Try.prog (binS .sub 3 false false v_b_1 t112) fun t120 => 
     pur Try.prog (binS .quo 3 false true t23 (.int .i64 8)) fun t122 => 
     pur Try.prog (binS .lss 3 false false t117 t120) fun t125 => 
     condS t125
      (pur Try.prog (binS .geq 3 false false t117 t122) fun t128 => 
      callS Try.prog 45 #[v_data, v_a_1, t112, v_limit_2, v_cmp] (fun _ w_46 => 
      pur Try.prog (binS .add 3 false true t112 (.int .i64 1)) fun t136 => 
      J t136 v_b_1 v_limit_2 t128 t113 w_46) w_45)
      (pur Try.prog (binS .geq 3 false false t120 t122) fun t139 => 
      pur Try.prog (binS .add 3 false true t112 (.int .i64 1)) fun t142 => 
      callS Try.prog 45 #[v_data, t142, v_b_1, v_limit_2, v_cmp] (fun _ w_47 => 
      J v_a_1 t112 v_limit_2 t139 t113 w_47) w_45)) w_43)) w_41) w_39) w_36) w_34) w_32) w_30) w_28) w_26) w_24) w_22) w_20) w_18) (World.drew w_16)))) w_5)))) [v_a, v_b, v_limit, (.bool true), (.bool true)] w
theorem eq45 (v_data v_a v_b v_limit v_cmp : Value) (Q : Value → World → Prop) (w : World) : semF Try.prog 45 [v_data, v_a, v_b, v_limit, v_cmp] Q w = S45 v_data v_a v_b v_limit v_cmp Q w := by kernel_rfl
theorem ref45 {v_data v_a v_b v_limit v_cmp : Value} {Q : Value → World → Prop} {w : World} (h : S45 v_data v_a v_b v_limit v_cmp Q w) : callS Try.prog 45 #[v_data, v_a, v_b, v_limit, v_cmp] Q w :=
  callS_of mix (fun a w => Try.call45 a w) (by kernel_rfl) (by rw [eq45]; exact h)
-- math/bits.Len
def S46 (v_x : Value) (Q : Value → World → Prop) (w : World) : Prop :=
 condS (.bool false)
  (pur Try.prog (convert 76 87 v_x) fun t4 => 
  callS Try.prog 58 #[t4] (fun t5 w_1 => 
  Q t5 w_1) w)
  (callS Try.prog 59 #[v_x] (fun t7 w_2 => 
 Q t7 w_2) w)
theorem eq46 (v_x : Value) (Q : Value → World → Prop) (w : World) : semF Try.prog 46 [v_x] Q w = S46 v_x Q w := by kernel_rfl
theorem ref46 {v_x : Value} {Q : Value → World → Prop} {w : World} (h : S46 v_x Q w) : callS Try.prog 46 #[v_x] Q w :=
  callS_of mix (fun a w => Try.call46 a w) (by kernel_rfl) (by rw [eq46]; exact h)
-- cmp.isNaN[int]
def S47 (v_x : Value) (Q : Value → World → Prop) (w : World) : Prop :=
 pur Try.prog (binS .neq 3 false false v_x v_x) fun t5 => 
 Q t5 w
theorem eq47 (v_x : Value) (Q : Value → World → Prop) (w : World) : semF Try.prog 47 [v_x] Q w = S47 v_x Q w := by kernel_rfl
theorem ref47 {v_x : Value} {Q : Value → World → Prop} {w : World} (h : S47 v_x Q w) : callS Try.prog 47 #[v_x] Q w :=
  callS_of mix (fun a w => Try.call47 a w) (by kernel_rfl) (by rw [eq47]; exact h)
-- commons/span.Norm
def S48 (v_l : Value) (Q : Value → World → Prop) (w : World) : Prop :=
 callS Try.prog 61 #[v_l] (fun t8 w_1 => 
 callS Try.prog 60 #[t8, (.func (.func 62) #[] #[])] (fun t9 w_2 => 
 callS Try.prog 63 #[t9, (.func (.func 64) #[] #[])] (fun _ w_3 => 
 pur Try.prog (Builtin.len_ #[71] 3 #[t9]) fun t13 => 
 lp 2 (fun J => fun v_out t14 w_4 => ∀ _j : Fr, 
  pur Try.prog (binS .lss 3 false false t14 t13) fun t15 => 
  condS t15
   (jn 1 (fun J_1 => 
   pur Try.prog (Instr.indexAt 71 t9 t14) fun t16 => 
   rd Try.prog (Instr.loadAt 25 t16) (fun t17 => 
   act Try.prog (Instr.alloc 25 true (.tuple #[])) (fun t5 w_5 => 
   act Try.prog (thenU (Instr.storeAt 25 t5 t17)) (fun _ w_6 => 
   pur Try.prog (Builtin.len_ #[71] 3 #[v_out]) fun t19 => 
   pur Try.prog (binS .sub 3 false true t19 (.int .i64 1)) fun t20 => 
   pur Try.prog (binS .geq 3 false true t20 (.int .i64 0)) fun t22 => 
   gd t22 true (fun k w_7 => pur Try.prog (Instr.fieldAt 25 t5 0) fun t24 => k t24 w_7) (fun t24_1 w_8 => 
   gd t22 true (fun k_1 w_9 => rd Try.prog (Instr.loadAt 3 t24_1) (fun t25 => k_1 t25 w_9) w_9) (fun t25_1 w_10 => 
   gd t22 true (fun k_2 w_11 => k_2 v_out w_11) (fun t26_1 w_12 => 
   gd t22 true (fun k_3 w_13 => k_3 t20 w_13) (fun t27_1 w_14 => 
   gd t22 true (fun k_4 w_15 => pur Try.prog (Instr.indexAt 71 t26_1 t27_1) fun t28 => k_4 t28 w_15) (fun t28_1 w_16 => 
   gd t22 true (fun k_5 w_17 => pur Try.prog (Instr.fieldAt 25 t28_1 1) fun t29 => k_5 t29 w_17) (fun t29_1 w_18 => 
   gd t22 true (fun k_6 w_19 => rd Try.prog (Instr.loadAt 3 t29_1) (fun t30 => k_6 t30 w_19) w_19) (fun t30_1 w_20 => 
   gd t22 true (fun k_7 w_21 => pur Try.prog (binS .leq 3 false false t25_1 t30_1) fun t31 => k_7 t31 w_21) (fun t31_1 w_22 => 
   pur Try.prog (pickS t22 t31_1 (.bool false)) fun t32 => 
   condS t32
    (pur Try.prog (Instr.indexAt 71 v_out t20) fun t37 => 
    pur Try.prog (Instr.fieldAt 25 t37 1) fun t38 => 
    rd Try.prog (Instr.loadAt 3 t38) (fun t39 => 
    pur Try.prog (Instr.fieldAt 25 t5 1) fun t40 => 
    rd Try.prog (Instr.loadAt 3 t40) (fun t41 => 
    pur Try.prog (Builtin.max_ #[3, 3] 3 #[t39, t41]) fun t42 => 
    pur Try.prog (Instr.indexAt 71 v_out t20) fun t43 => 
    pur Try.prog (Instr.fieldAt 25 t43 1) fun t44 => 
    act Try.prog (thenU (Instr.storeAt 3 t44 t42)) (fun _ w_23 => 
    J_1 v_out w_23) (World.drew w_22)) (World.drew w_22)) (World.drew w_22))
    (rd Try.prog (Instr.loadAt 25 t5) (fun t46 => 
    act Try.prog (Instr.buildSlice 71 1 #[(0, t46)]) (fun t47 w_24 => 
    act Try.prog (Builtin.append_ #[71, 71] 71 #[v_out, t47]) (fun t48 w_25 => 
    J_1 t48 w_25) w_24) w_22) w_22)) w_20) w_18) w_16) w_14) w_12) w_10) w_8) (World.drew w_6)) w_5) w_4) w_4)
  (fun v_out_1 w_26 => ∀ _j : Fr, 
   pur Try.prog (binS .add 3 false true t14 (.int .i64 1)) fun t49 => 
   J v_out_1 t49 w_26))
   (Q v_out w_4)) [(.slice none 0 0), (.int .i64 0)] w_3) w_2) w_1) w
theorem eq48 (v_l : Value) (Q : Value → World → Prop) (w : World) : semF Try.prog 48 [v_l] Q w = S48 v_l Q w := by kernel_rfl
theorem ref48 {v_l : Value} {Q : Value → World → Prop} {w : World} (h : S48 v_l Q w) : callS Try.prog 48 #[v_l] Q w :=
  callS_of mix (fun a w => Try.call48 a w) (by kernel_rfl) (by rw [eq48]; exact h)
-- commons/span.Meets
def S49 (v_a v_b : Value) (Q : Value → World → Prop) (w : World) : Prop :=
 act Try.prog (Instr.box 25 v_a) (fun t2 w_1 => 
 act Try.prog (Instr.box 25 v_b) (fun t3 w_2 => 
 rd Try.prog (Instr.loadAt 25 t2) (fun t8 => 
 rd Try.prog (Instr.loadAt 25 t3) (fun t9 => 
 callS Try.prog 38 #[t8, t9] (fun t10 w_3 => 
 pur Try.prog (Instr.extract t10 0) fun t11 => 
 pur Try.prog (Instr.extract t10 1) fun t12 => 
 act Try.prog (Instr.alloc 25 true (.tuple #[])) (fun t5 w_4 => 
 act Try.prog (thenU (Instr.storeAt 25 t5 t11)) (fun _ w_5 => 
 Q t12 w_5) w_4) w_3) w_2) w_2) w_2) w_1) w
theorem eq49 (v_a v_b : Value) (Q : Value → World → Prop) (w : World) : semF Try.prog 49 [v_a, v_b] Q w = S49 v_a v_b Q w := by kernel_rfl
theorem ref49 {v_a v_b : Value} {Q : Value → World → Prop} {w : World} (h : S49 v_a v_b Q w) : callS Try.prog 49 #[v_a, v_b] Q w :=
  callS_of mix (fun a w => Try.call49 a w) (by kernel_rfl) (by rw [eq49]; exact h)
-- slices.insertionSortCmpFunc[commons/imap.Part[int]]
def S50 (v_data v_a v_b v_cmp : Value) (Q : Value → World → Prop) (w : World) : Prop :=
 pur Try.prog (binS .add 3 false true v_a (.int .i64 1)) fun t11 => 
 lp 1 (fun J => fun v_i w_1 => ∀ _j : Fr, 
  pur Try.prog (binS .lss 3 false false v_i v_b) fun t14 => 
  condS t14
   (lp 1 (fun J_1 => fun v_j w_2 => ∀ _j : Fr, 
   pur Try.prog (binS .gtr 3 false false v_j v_a) fun t20 => 
   gd t20 true (fun k w_3 => k v_cmp w_3) (fun t22_1 w_4 => 
   gd t20 true (fun k_1 w_5 => k_1 v_data w_5) (fun t23_1 w_6 => 
   gd t20 true (fun k_2 w_7 => k_2 v_j w_7) (fun t24_1 w_8 => 
   gd t20 true (fun k_3 w_9 => pur Try.prog (Instr.indexAt 57 t23_1 t24_1) fun t25 => k_3 t25 w_9) (fun t25_1 w_10 => 
   gd t20 true (fun k_4 w_11 => rd Try.prog (Instr.loadAt 60 t25_1) (fun t26 => k_4 t26 w_11) w_11) (fun t26_1 w_12 => 
   gd t20 true (fun k_5 w_13 => k_5 v_data w_13) (fun t27_1 w_14 => 
   gd t20 true (fun k_6 w_15 => k_6 v_j w_15) (fun t28_1 w_16 => 
   gd t20 true (fun k_7 w_17 => pur Try.prog (binS .sub 3 false true t28_1 (.int .i64 1)) fun t29 => k_7 t29 w_17) (fun t29_1 w_18 => 
   gd t20 true (fun k_8 w_19 => pur Try.prog (Instr.indexAt 57 t27_1 t29_1) fun t30 => k_8 t30 w_19) (fun t30_1 w_20 => 
   gd t20 true (fun k_9 w_21 => rd Try.prog (Instr.loadAt 60 t30_1) (fun t31 => k_9 t31 w_21) w_21) (fun t31_1 w_22 => 
   gd t20 true (fun k_10 w_23 => callF Try.prog t22_1 #[t26_1, t31_1] (fun t32 w_24 => k_10 t32 w_24) w_23) (fun t32_1 w_25 => 
   gd t20 true (fun k_11 w_26 => pur Try.prog (binS .lss 3 false true t32_1 (.int .i64 0)) fun t33 => k_11 t33 w_26) (fun t33_1 w_27 => 
   pur Try.prog (pickS t20 t33_1 (.bool false)) fun t34 => 
   condS t34
    (pur Try.prog (binS .sub 3 false true v_j (.int .i64 1)) fun t41 => 
   pur Try.prog (binS .sub 3 false true v_j (.int .i64 1)) fun t44 => 
   pur Try.prog (Instr.indexAt 57 v_data t44) fun t45 => 
   rd Try.prog (Instr.loadAt 60 t45) (fun t46 => 
   pur Try.prog (Instr.indexAt 57 v_data v_j) fun t49 => 
   rd Try.prog (Instr.loadAt 60 t49) (fun t50 => 
   pur Try.prog (Instr.indexAt 57 v_data v_j) fun t51 => 
   act Try.prog (thenU (Instr.storeAt 60 t51 t46)) (fun _ w_28 => 
   pur Try.prog (Instr.indexAt 57 v_data t41) fun t52 => 
   act Try.prog (thenU (Instr.storeAt 60 t52 t50)) (fun _ w_29 => 
   pur Try.prog (binS .sub 3 false true v_j (.int .i64 1)) fun t36 => 
   J_1 t36 w_29) w_28) (World.drew w_27)) (World.drew w_27)) (World.drew w_27))
    (pur Try.prog (binS .add 3 false true v_i (.int .i64 1)) fun t16 => 
  J t16 w_27)) w_25) w_22) w_20) w_18) w_16) w_14) w_12) w_10) w_8) w_6) w_4) (World.drew w_2)) [v_i] w_1)
   (Q (.tuple #[]) w_1)) [t11] w
theorem eq50 (v_data v_a v_b v_cmp : Value) (Q : Value → World → Prop) (w : World) : semF Try.prog 50 [v_data, v_a, v_b, v_cmp] Q w = S50 v_data v_a v_b v_cmp Q w := by kernel_rfl
theorem ref50 {v_data v_a v_b v_cmp : Value} {Q : Value → World → Prop} {w : World} (h : S50 v_data v_a v_b v_cmp Q w) : callS Try.prog 50 #[v_data, v_a, v_b, v_cmp] Q w :=
  callS_of mix (fun a w => Try.call50 a w) (by kernel_rfl) (by rw [eq50]; exact h)
-- slices.heapSortCmpFunc[commons/imap.Part[int]]
def S51 (v_data v_a v_b v_cmp : Value) (Q : Value → World → Prop) (w : World) : Prop :=
 pur Try.prog (binS .sub 3 false false v_b v_a) fun t16 => 
 pur Try.prog (binS .sub 3 false true t16 (.int .i64 1)) fun t18 => 
 pur Try.prog (binS .quo 3 false true t18 (.int .i64 2)) fun t19 => 
 lp 1 (fun J => fun v_i w_1 => ∀ _j : Fr, 
  pur Try.prog (binS .geq 3 false true v_i (.int .i64 0)) fun t21 => 
  condS t21
   (callS Try.prog 66 #[v_data, v_i, t16, v_a, v_cmp] (fun _ w_2 => 
  pur Try.prog (binS .sub 3 false true v_i (.int .i64 1)) fun t23 => 
  J t23 w_2) w_1)
   (pur Try.prog (binS .sub 3 false true t16 (.int .i64 1)) fun t31 => 
 lp 1 (fun J_1 => fun v_i_1 w_3 => ∀ _j : Fr, 
  pur Try.prog (binS .geq 3 false true v_i_1 (.int .i64 0)) fun t33 => 
  condS t33
   (pur Try.prog (binS .add 3 false false v_a v_i_1) fun t41 => 
  pur Try.prog (binS .add 3 false false v_a v_i_1) fun t45 => 
  pur Try.prog (Instr.indexAt 57 v_data t45) fun t46 => 
  rd Try.prog (Instr.loadAt 60 t46) (fun t47 => 
  pur Try.prog (Instr.indexAt 57 v_data v_a) fun t50 => 
  rd Try.prog (Instr.loadAt 60 t50) (fun t51 => 
  pur Try.prog (Instr.indexAt 57 v_data v_a) fun t52 => 
  act Try.prog (thenU (Instr.storeAt 60 t52 t47)) (fun _ w_4 => 
  pur Try.prog (Instr.indexAt 57 v_data t41) fun t53 => 
  act Try.prog (thenU (Instr.storeAt 60 t53 t51)) (fun _ w_5 => 
  callS Try.prog 66 #[v_data, (.int .i64 0), v_i_1, v_a, v_cmp] (fun _ w_6 => 
  pur Try.prog (binS .sub 3 false true v_i_1 (.int .i64 1)) fun t35 => 
  J_1 t35 w_6) w_5) w_4) (World.drew w_3)) (World.drew w_3)) (World.drew w_3))
   (Q (.tuple #[]) w_3)) [t31] w_1)) [t19] w
theorem eq51 (v_data v_a v_b v_cmp : Value) (Q : Value → World → Prop) (w : World) : semF Try.prog 51 [v_data, v_a, v_b, v_cmp] Q w = S51 v_data v_a v_b v_cmp Q w := by kernel_rfl
theorem ref51 {v_data v_a v_b v_cmp : Value} {Q : Value → World → Prop} {w : World} (h : S51 v_data v_a v_b v_cmp Q w) : callS Try.prog 51 #[v_data, v_a, v_b, v_cmp] Q w :=
  callS_of mix (fun a w => Try.call51 a w) (by kernel_rfl) (by rw [eq51]; exact h)
-- slices.breakPatternsCmpFunc[commons/imap.Part[int]]
def S52 (v_data v_a v_b _ : Value) (Q : Value → World → Prop) (w : World) : Prop :=
 pur Try.prog (binS .sub 3 false false v_b v_a) fun t15 => 
 pur Try.prog (binS .geq 3 false true t15 (.int .i64 8)) fun t17 => 
 condS t17
  (pur Try.prog (convert 3 95 t15) fun t19 => 
  act Try.prog (Instr.alloc 95 true (.tuple #[])) (fun t9 w_1 => 
  act Try.prog (thenU (Instr.storeAt 95 t9 t19)) (fun _ w_2 => 
  callS Try.prog 67 #[t15] (fun t21 w_3 => 
  pur Try.prog (binS .quo 3 false true t15 (.int .i64 4)) fun t24 => 
  pur Try.prog (binS .mul 3 false true t24 (.int .i64 2)) fun t25 => 
  pur Try.prog (binS .add 3 false false v_a t25) fun t26 => 
  pur Try.prog (binS .sub 3 false true t26 (.int .i64 1)) fun t27 => 
  lp 1 (fun J => fun v_idx w_4 => ∀ _j : Fr, 
   pur Try.prog (binS .quo 3 false true t15 (.int .i64 4)) fun t31 => 
   pur Try.prog (binS .mul 3 false true t31 (.int .i64 2)) fun t32 => 
   pur Try.prog (binS .add 3 false false v_a t32) fun t33 => 
   pur Try.prog (binS .add 3 false true t33 (.int .i64 1)) fun t34 => 
   pur Try.prog (binS .leq 3 false false v_idx t34) fun t35 => 
   condS t35
    (callS Try.prog 68 #[t9] (fun t38 w_5 => 
   pur Try.prog (binS .sub 76 false true t21 (.int .u64 1)) fun t40 => 
   pur Try.prog (binS .and 76 false false t38 t40) fun t41 => 
   pur Try.prog (convert 76 3 t41) fun t42 => 
   jn 1 (fun J_1 => 
    pur Try.prog (binS .geq 3 false false t42 t15) fun t45 => 
    condS t45
     (pur Try.prog (binS .sub 3 false false t42 t15) fun t48 => 
     J_1 t48 w_5)
     (J_1 t42 w_5))
   (fun v_other w_6 => ∀ _j : Fr, 
    pur Try.prog (binS .add 3 false false v_a v_other) fun t54 => 
    pur Try.prog (binS .add 3 false false v_a v_other) fun t58 => 
    pur Try.prog (Instr.indexAt 57 v_data t58) fun t59 => 
    rd Try.prog (Instr.loadAt 60 t59) (fun t60 => 
    pur Try.prog (Instr.indexAt 57 v_data v_idx) fun t63 => 
    rd Try.prog (Instr.loadAt 60 t63) (fun t64 => 
    pur Try.prog (Instr.indexAt 57 v_data v_idx) fun t65 => 
    act Try.prog (thenU (Instr.storeAt 60 t65 t60)) (fun _ w_7 => 
    pur Try.prog (Instr.indexAt 57 v_data t54) fun t66 => 
    act Try.prog (thenU (Instr.storeAt 60 t66 t64)) (fun _ w_8 => 
    pur Try.prog (binS .add 3 false true v_idx (.int .i64 1)) fun t37 => 
   J t37 w_8) w_7) (World.drew w_6)) (World.drew w_6)) (World.drew w_6))) w_4)
    (Q (.tuple #[]) w_4)) [t27] w_3) w_2) w_1) w)
  (Q (.tuple #[]) w)
theorem eq52 (v_data v_a v_b v_cmp : Value) (Q : Value → World → Prop) (w : World) : semF Try.prog 52 [v_data, v_a, v_b, v_cmp] Q w = S52 v_data v_a v_b v_cmp Q w := by kernel_rfl
theorem ref52 {v_data v_a v_b v_cmp : Value} {Q : Value → World → Prop} {w : World} (h : S52 v_data v_a v_b v_cmp Q w) : callS Try.prog 52 #[v_data, v_a, v_b, v_cmp] Q w :=
  callS_of mix (fun a w => Try.call52 a w) (by kernel_rfl) (by rw [eq52]; exact h)
-- slices.choosePivotCmpFunc[commons/imap.Part[int]]
def S53 (v_data v_a v_b v_cmp : Value) (Q : Value → World → Prop) (w : World) : Prop :=
 pur Try.prog (binS .sub 3 false false v_b v_a) fun t17 => 
 act Try.prog (Instr.alloc 3 true (.tuple #[])) (fun t11 w_1 => 
 pur Try.prog (binS .quo 3 false true t17 (.int .i64 4)) fun t20 => 
 pur Try.prog (binS .mul 3 false true t20 (.int .i64 1)) fun t21 => 
 pur Try.prog (binS .add 3 false false v_a t21) fun t22 => 
 pur Try.prog (binS .quo 3 false true t17 (.int .i64 4)) fun t25 => 
 pur Try.prog (binS .mul 3 false true t25 (.int .i64 2)) fun t26 => 
 pur Try.prog (binS .add 3 false false v_a t26) fun t27 => 
 pur Try.prog (binS .quo 3 false true t17 (.int .i64 4)) fun t30 => 
 pur Try.prog (binS .mul 3 false true t30 (.int .i64 3)) fun t31 => 
 pur Try.prog (binS .add 3 false false v_a t31) fun t32 => 
 jn 1 (fun J => 
  pur Try.prog (binS .geq 3 false true t17 (.int .i64 8)) fun t34 => 
  condS t34
   (jn 3 (fun J_1 => 
    pur Try.prog (binS .geq 3 false true t17 (.int .i64 50)) fun t36 => 
    condS t36
     (callS Try.prog 69 #[v_data, t22, t11, v_cmp] (fun t40 w_2 => 
     callS Try.prog 69 #[v_data, t27, t11, v_cmp] (fun t44 w_3 => 
     callS Try.prog 69 #[v_data, t32, t11, v_cmp] (fun t48 w_4 => 
     J_1 t40 t44 t48 w_4) w_3) w_2) w_1)
     (J_1 t22 t27 t32 w_1))
   (fun v_i v_j v_k w_5 => ∀ _j : Fr, 
    callS Try.prog 70 #[v_data, v_i, v_j, v_k, t11, v_cmp] (fun t54 w_6 => 
    J t54 w_6) w_5))
   (J t27 w_1))
 (fun v_j_1 w_7 => ∀ _j : Fr, 
  rd Try.prog (Instr.loadAt 3 t11) (fun t55 => 
  pur Try.prog (binS .eql 3 false true t55 (.int .i64 0)) fun t58 => 
  condS t58
   (Q (.tuple #[v_j_1, (.int .i64 1)]) w_7)
   (pur Try.prog (binS .eql 3 false true t55 (.int .i64 12)) fun t61 => 
   condS t61
    (Q (.tuple #[v_j_1, (.int .i64 2)]) w_7)
    (Q (.tuple #[v_j_1, (.int .i64 0)]) w_7))) w_7)) w
theorem eq53 (v_data v_a v_b v_cmp : Value) (Q : Value → World → Prop) (w : World) : semF Try.prog 53 [v_data, v_a, v_b, v_cmp] Q w = S53 v_data v_a v_b v_cmp Q w := by kernel_rfl
theorem ref53 {v_data v_a v_b v_cmp : Value} {Q : Value → World → Prop} {w : World} (h : S53 v_data v_a v_b v_cmp Q w) : callS Try.prog 53 #[v_data, v_a, v_b, v_cmp] Q w :=
  callS_of mix (fun a w => Try.call53 a w) (by kernel_rfl) (by rw [eq53]; exact h)
-- slices.reverseRangeCmpFunc[commons/imap.Part[int]]
def S54 (v_data v_a v_b _ : Value) (Q : Value → World → Prop) (w : World) : Prop :=
 pur Try.prog (binS .sub 3 false true v_b (.int .i64 1)) fun t12 => 
 lp 2 (fun J => fun v_i v_j w_1 => ∀ _j : Fr, 
  pur Try.prog (binS .lss 3 false false v_i v_j) fun t15 => 
  condS t15
   (pur Try.prog (Instr.indexAt 57 v_data v_j) fun t22 => 
  rd Try.prog (Instr.loadAt 60 t22) (fun t23 => 
  pur Try.prog (Instr.indexAt 57 v_data v_i) fun t26 => 
  rd Try.prog (Instr.loadAt 60 t26) (fun t27 => 
  pur Try.prog (Instr.indexAt 57 v_data v_i) fun t28 => 
  act Try.prog (thenU (Instr.storeAt 60 t28 t23)) (fun _ w_2 => 
  pur Try.prog (Instr.indexAt 57 v_data v_j) fun t29 => 
  act Try.prog (thenU (Instr.storeAt 60 t29 t27)) (fun _ w_3 => 
  pur Try.prog (binS .add 3 false true v_i (.int .i64 1)) fun t31 => 
  pur Try.prog (binS .sub 3 false true v_j (.int .i64 1)) fun t33 => 
  J t31 t33 w_3) w_2) (World.drew w_1)) (World.drew w_1)) (World.drew w_1))
   (Q (.tuple #[]) w_1)) [v_a, t12] w
theorem eq54 (v_data v_a v_b v_cmp : Value) (Q : Value → World → Prop) (w : World) : semF Try.prog 54 [v_data, v_a, v_b, v_cmp] Q w = S54 v_data v_a v_b v_cmp Q w := by kernel_rfl
theorem ref54 {v_data v_a v_b v_cmp : Value} {Q : Value → World → Prop} {w : World} (h : S54 v_data v_a v_b v_cmp Q w) : callS Try.prog 54 #[v_data, v_a, v_b, v_cmp] Q w :=
  callS_of mix (fun a w => Try.call54 a w) (by kernel_rfl) (by rw [eq54]; exact h)
-- slices.partialInsertionSortCmpFunc[commons/imap.Part[int]]
def S55 (v_data v_a v_b v_cmp : Value) (Q : Value → World → Prop) (w : World) : Prop :=
 pur Try.prog (binS .add 3 false true v_a (.int .i64 1)) fun t14 => 
 lp 2 (fun J => fun v_i v_j w_1 => ∀ _j : Fr, 
  pur Try.prog (binS .lss 3 false true v_j (.int .i64 5)) fun t16 => 
  condS t16
   (jn 1 (fun J_1 => 
   lp 1 (fun J_2 => fun v_i_1 w_2 => ∀ _j : Fr, 
    pur Try.prog (binS .lss 3 false false v_i_1 v_b) fun t21 => 
    gd t21 true (fun k w_3 => k v_cmp w_3) (fun t23_1 w_4 => 
    gd t21 true (fun k_1 w_5 => k_1 v_data w_5) (fun t24_1 w_6 => 
    gd t21 true (fun k_2 w_7 => k_2 v_i_1 w_7) (fun t25_1 w_8 => 
    gd t21 true (fun k_3 w_9 => pur Try.prog (Instr.indexAt 57 t24_1 t25_1) fun t26 => k_3 t26 w_9) (fun t26_1 w_10 => 
    gd t21 true (fun k_4 w_11 => rd Try.prog (Instr.loadAt 60 t26_1) (fun t27 => k_4 t27 w_11) w_11) (fun t27_1 w_12 => 
    gd t21 true (fun k_5 w_13 => k_5 v_data w_13) (fun t28_1 w_14 => 
    gd t21 true (fun k_6 w_15 => k_6 v_i_1 w_15) (fun t29_1 w_16 => 
    gd t21 true (fun k_7 w_17 => pur Try.prog (binS .sub 3 false true t29_1 (.int .i64 1)) fun t30 => k_7 t30 w_17) (fun t30_1 w_18 => 
    gd t21 true (fun k_8 w_19 => pur Try.prog (Instr.indexAt 57 t28_1 t30_1) fun t31 => k_8 t31 w_19) (fun t31_1 w_20 => 
    gd t21 true (fun k_9 w_21 => rd Try.prog (Instr.loadAt 60 t31_1) (fun t32 => k_9 t32 w_21) w_21) (fun t32_1 w_22 => 
    gd t21 true (fun k_10 w_23 => callF Try.prog t23_1 #[t27_1, t32_1] (fun t33 w_24 => k_10 t33 w_24) w_23) (fun t33_1 w_25 => 
    gd t21 true (fun k_11 w_26 => pur Try.prog (binS .lss 3 false true t33_1 (.int .i64 0)) fun t34 => k_11 t34 w_26) (fun t34_1 w_27 => 
    gd t21 true (fun k_12 w_28 => pur Try.prog (Op.unary .not t34_1) fun t35 => k_12 t35 w_28) (fun t35_1 w_29 => 
    pur Try.prog (pickS t21 t35_1 (.bool false)) fun t36 => 
    condS t36
     (pur Try.prog (binS .add 3 false true v_i_1 (.int .i64 1)) fun t38 => 
    J_2 t38 w_29)
     (pur Try.prog (binS .eql 3 false false v_i_1 v_b) fun t41 => 
   condS t41
    (Q (.bool true) w_29)
    (pur Try.prog (binS .sub 3 false false v_b v_a) fun t44 => 
   pur Try.prog (binS .lss 3 false true t44 (.int .i64 50)) fun t45 => 
   condS t45
    (Q (.bool false) w_29)
    (pur Try.prog (binS .sub 3 false true v_i_1 (.int .i64 1)) fun t50 => 
   pur Try.prog (binS .sub 3 false true v_i_1 (.int .i64 1)) fun t53 => 
   pur Try.prog (Instr.indexAt 57 v_data t53) fun t54 => 
   rd Try.prog (Instr.loadAt 60 t54) (fun t55 => 
   pur Try.prog (Instr.indexAt 57 v_data v_i_1) fun t58 => 
   rd Try.prog (Instr.loadAt 60 t58) (fun t59 => 
   pur Try.prog (Instr.indexAt 57 v_data v_i_1) fun t60 => 
   act Try.prog (thenU (Instr.storeAt 60 t60 t55)) (fun _ w_30 => 
   pur Try.prog (Instr.indexAt 57 v_data t50) fun t61 => 
   act Try.prog (thenU (Instr.storeAt 60 t61 t59)) (fun _ w_31 => 
   jn 0 (fun J_3 => 
    pur Try.prog (binS .sub 3 false false v_i_1 v_a) fun t64 => 
    pur Try.prog (binS .geq 3 false true t64 (.int .i64 2)) fun t65 => 
    condS t65
     (pur Try.prog (binS .sub 3 false true v_i_1 (.int .i64 1)) fun t67 => 
     lp 1 (fun J_4 => fun v_j_1 w_32 => ∀ _j : Fr, 
      pur Try.prog (binS .geq 3 false true v_j_1 (.int .i64 1)) fun t69 => 
      condS t69
       (pur Try.prog (Instr.indexAt 57 v_data v_j_1) fun t75 => 
      rd Try.prog (Instr.loadAt 60 t75) (fun t76 => 
      pur Try.prog (binS .sub 3 false true v_j_1 (.int .i64 1)) fun t79 => 
      pur Try.prog (Instr.indexAt 57 v_data t79) fun t80 => 
      rd Try.prog (Instr.loadAt 60 t80) (fun t81 => 
      callF Try.prog v_cmp #[t76, t81] (fun t82 w_33 => 
      pur Try.prog (binS .lss 3 false true t82 (.int .i64 0)) fun t83 => 
      pur Try.prog (Op.unary .not t83) fun t84 => 
      condS t84
       (J_3  w_33)
       (pur Try.prog (binS .sub 3 false true v_j_1 (.int .i64 1)) fun t89 => 
      pur Try.prog (binS .sub 3 false true v_j_1 (.int .i64 1)) fun t92 => 
      pur Try.prog (Instr.indexAt 57 v_data t92) fun t93 => 
      rd Try.prog (Instr.loadAt 60 t93) (fun t94 => 
      pur Try.prog (Instr.indexAt 57 v_data v_j_1) fun t97 => 
      rd Try.prog (Instr.loadAt 60 t97) (fun t98 => 
      pur Try.prog (Instr.indexAt 57 v_data v_j_1) fun t99 => 
      act Try.prog (thenU (Instr.storeAt 60 t99 t94)) (fun _ w_34 => 
      pur Try.prog (Instr.indexAt 57 v_data t89) fun t100 => 
      act Try.prog (thenU (Instr.storeAt 60 t100 t98)) (fun _ w_35 => 
      pur Try.prog (binS .sub 3 false true v_j_1 (.int .i64 1)) fun t71 => 
      J_4 t71 w_35) w_34) (World.drew w_33)) (World.drew w_33)) (World.drew w_33))) (World.drew w_32)) (World.drew w_32)) (World.drew w_32))
       (J_3  w_32)) [t67] w_31)
     (J_3  w_31))
   (fun  w_36 => ∀ _j : Fr, 
    pur Try.prog (binS .sub 3 false false v_b v_i_1) fun t103 => 
    pur Try.prog (binS .geq 3 false true t103 (.int .i64 2)) fun t104 => 
    condS t104
     (pur Try.prog (binS .add 3 false true v_i_1 (.int .i64 1)) fun t106 => 
     lp 1 (fun J_5 => fun v_j_2 w_37 => ∀ _j : Fr, 
      pur Try.prog (binS .lss 3 false false v_j_2 v_b) fun t109 => 
      condS t109
       (pur Try.prog (Instr.indexAt 57 v_data v_j_2) fun t115 => 
      rd Try.prog (Instr.loadAt 60 t115) (fun t116 => 
      pur Try.prog (binS .sub 3 false true v_j_2 (.int .i64 1)) fun t119 => 
      pur Try.prog (Instr.indexAt 57 v_data t119) fun t120 => 
      rd Try.prog (Instr.loadAt 60 t120) (fun t121 => 
      callF Try.prog v_cmp #[t116, t121] (fun t122 w_38 => 
      pur Try.prog (binS .lss 3 false true t122 (.int .i64 0)) fun t123 => 
      pur Try.prog (Op.unary .not t123) fun t124 => 
      condS t124
       (J_1 v_i_1 w_38)
       (pur Try.prog (binS .sub 3 false true v_j_2 (.int .i64 1)) fun t129 => 
      pur Try.prog (binS .sub 3 false true v_j_2 (.int .i64 1)) fun t132 => 
      pur Try.prog (Instr.indexAt 57 v_data t132) fun t133 => 
      rd Try.prog (Instr.loadAt 60 t133) (fun t134 => 
      pur Try.prog (Instr.indexAt 57 v_data v_j_2) fun t137 => 
      rd Try.prog (Instr.loadAt 60 t137) (fun t138 => 
      pur Try.prog (Instr.indexAt 57 v_data v_j_2) fun t139 => 
      act Try.prog (thenU (Instr.storeAt 60 t139 t134)) (fun _ w_39 => 
      pur Try.prog (Instr.indexAt 57 v_data t129) fun t140 => 
      act Try.prog (thenU (Instr.storeAt 60 t140 t138)) (fun _ w_40 => 
      pur Try.prog (binS .add 3 false true v_j_2 (.int .i64 1)) fun t111 => 
      J_5 t111 w_40) w_39) (World.drew w_38)) (World.drew w_38)) (World.drew w_38))) (World.drew w_37)) (World.drew w_37)) (World.drew w_37))
       (J_1 v_i_1 w_37)) [t106] w_36)
     (J_1 v_i_1 w_36))) w_30) (World.drew w_29)) (World.drew w_29)) (World.drew w_29))))) w_27) w_25) w_22) w_20) w_18) w_16) w_14) w_12) w_10) w_8) w_6) w_4) (World.drew w_2)) [v_i] w_1)
  (fun v_i_2 w_41 => ∀ _j : Fr, 
   pur Try.prog (binS .add 3 false true v_j (.int .i64 1)) fun t18 => 
   J v_i_2 t18 w_41))
   (Q (.bool false) w_1)) [t14, (.int .i64 0)] w
theorem eq55 (v_data v_a v_b v_cmp : Value) (Q : Value → World → Prop) (w : World) : semF Try.prog 55 [v_data, v_a, v_b, v_cmp] Q w = S55 v_data v_a v_b v_cmp Q w := by kernel_rfl
theorem ref55 {v_data v_a v_b v_cmp : Value} {Q : Value → World → Prop} {w : World} (h : S55 v_data v_a v_b v_cmp Q w) : callS Try.prog 55 #[v_data, v_a, v_b, v_cmp] Q w :=
  callS_of mix (fun a w => Try.call55 a w) (by kernel_rfl) (by rw [eq55]; exact h)
-- slices.partitionEqualCmpFunc[commons/imap.Part[int]]
def S56 (v_data v_a v_b v_pivot v_cmp : Value) (Q : Value → World → Prop) (w : World) : Prop :=
 pur Try.prog (Instr.indexAt 57 v_data v_pivot) fun t19 => 
 rd Try.prog (Instr.loadAt 60 t19) (fun t20 => 
 pur Try.prog (Instr.indexAt 57 v_data v_a) fun t23 => 
 rd Try.prog (Instr.loadAt 60 t23) (fun t24 => 
 pur Try.prog (Instr.indexAt 57 v_data v_a) fun t25 => 
 act Try.prog (thenU (Instr.storeAt 60 t25 t20)) (fun _ w_1 => 
 pur Try.prog (Instr.indexAt 57 v_data v_pivot) fun t26 => 
 act Try.prog (thenU (Instr.storeAt 60 t26 t24)) (fun _ w_2 => 
 pur Try.prog (binS .add 3 false true v_a (.int .i64 1)) fun t28 => 
 pur Try.prog (binS .sub 3 false true v_b (.int .i64 1)) fun t30 => 
 lp 2 (fun J => fun v_i v_j w_3 => ∀ _j : Fr, 
  lp 1 (fun J_1 => fun v_i_1 w_4 => ∀ _j : Fr, 
   pur Try.prog (binS .leq 3 false false v_i_1 v_j) fun t33 => 
   gd t33 true (fun k w_5 => k v_cmp w_5) (fun t35_1 w_6 => 
   gd t33 true (fun k_1 w_7 => k_1 v_data w_7) (fun t36_1 w_8 => 
   gd t33 true (fun k_2 w_9 => k_2 v_a w_9) (fun t37_1 w_10 => 
   gd t33 true (fun k_3 w_11 => pur Try.prog (Instr.indexAt 57 t36_1 t37_1) fun t38 => k_3 t38 w_11) (fun t38_1 w_12 => 
   gd t33 true (fun k_4 w_13 => rd Try.prog (Instr.loadAt 60 t38_1) (fun t39 => k_4 t39 w_13) w_13) (fun t39_1 w_14 => 
   gd t33 true (fun k_5 w_15 => k_5 v_data w_15) (fun t40_1 w_16 => 
   gd t33 true (fun k_6 w_17 => k_6 v_i_1 w_17) (fun t41_1 w_18 => 
   gd t33 true (fun k_7 w_19 => pur Try.prog (Instr.indexAt 57 t40_1 t41_1) fun t42 => k_7 t42 w_19) (fun t42_1 w_20 => 
   gd t33 true (fun k_8 w_21 => rd Try.prog (Instr.loadAt 60 t42_1) (fun t43 => k_8 t43 w_21) w_21) (fun t43_1 w_22 => 
   gd t33 true (fun k_9 w_23 => callF Try.prog t35_1 #[t39_1, t43_1] (fun t44 w_24 => k_9 t44 w_24) w_23) (fun t44_1 w_25 => 
   gd t33 true (fun k_10 w_26 => pur Try.prog (binS .lss 3 false true t44_1 (.int .i64 0)) fun t45 => k_10 t45 w_26) (fun t45_1 w_27 => 
   gd t33 true (fun k_11 w_28 => pur Try.prog (Op.unary .not t45_1) fun t46 => k_11 t46 w_28) (fun t46_1 w_29 => 
   pur Try.prog (pickS t33 t46_1 (.bool false)) fun t47 => 
   condS t47
    (pur Try.prog (binS .add 3 false true v_i_1 (.int .i64 1)) fun t49 => 
   J_1 t49 w_29)
    (lp 1 (fun J_2 => fun v_j_1 w_30 => ∀ _j : Fr, 
   pur Try.prog (binS .leq 3 false false v_i_1 v_j_1) fun t52 => 
   gd t52 true (fun k_12 w_31 => k_12 v_cmp w_31) (fun t54_1 w_32 => 
   gd t52 true (fun k_13 w_33 => k_13 v_data w_33) (fun t55_1 w_34 => 
   gd t52 true (fun k_14 w_35 => k_14 v_a w_35) (fun t56_1 w_36 => 
   gd t52 true (fun k_15 w_37 => pur Try.prog (Instr.indexAt 57 t55_1 t56_1) fun t57 => k_15 t57 w_37) (fun t57_1 w_38 => 
   gd t52 true (fun k_16 w_39 => rd Try.prog (Instr.loadAt 60 t57_1) (fun t58 => k_16 t58 w_39) w_39) (fun t58_1 w_40 => 
   gd t52 true (fun k_17 w_41 => k_17 v_data w_41) (fun t59_1 w_42 => 
   gd t52 true (fun k_18 w_43 => k_18 v_j_1 w_43) (fun t60_1 w_44 => 
   gd t52 true (fun k_19 w_45 => pur Try.prog (Instr.indexAt 57 t59_1 t60_1) fun t61 => k_19 t61 w_45) (fun t61_1 w_46 => 
   gd t52 true (fun k_20 w_47 => rd Try.prog (Instr.loadAt 60 t61_1) (fun t62 => k_20 t62 w_47) w_47) (fun t62_1 w_48 => 
   gd t52 true (fun k_21 w_49 => callF Try.prog t54_1 #[t58_1, t62_1] (fun t63 w_50 => k_21 t63 w_50) w_49) (fun t63_1 w_51 => 
   gd t52 true (fun k_22 w_52 => pur Try.prog (binS .lss 3 false true t63_1 (.int .i64 0)) fun t64 => k_22 t64 w_52) (fun t64_1 w_53 => 
   pur Try.prog (pickS t52 t64_1 (.bool false)) fun t65 => 
   condS t65
    (pur Try.prog (binS .sub 3 false true v_j_1 (.int .i64 1)) fun t67 => 
   J_2 t67 w_53)
    (pur Try.prog (binS .gtr 3 false false v_i_1 v_j_1) fun t70 => 
  condS t70
   (Q v_i_1 w_53)
   (pur Try.prog (Instr.indexAt 57 v_data v_j_1) fun t77 => 
  rd Try.prog (Instr.loadAt 60 t77) (fun t78 => 
  pur Try.prog (Instr.indexAt 57 v_data v_i_1) fun t81 => 
  rd Try.prog (Instr.loadAt 60 t81) (fun t82 => 
  pur Try.prog (Instr.indexAt 57 v_data v_i_1) fun t83 => 
  act Try.prog (thenU (Instr.storeAt 60 t83 t78)) (fun _ w_54 => 
  pur Try.prog (Instr.indexAt 57 v_data v_j_1) fun t84 => 
  act Try.prog (thenU (Instr.storeAt 60 t84 t82)) (fun _ w_55 => 
  pur Try.prog (binS .add 3 false true v_i_1 (.int .i64 1)) fun t86 => 
  pur Try.prog (binS .sub 3 false true v_j_1 (.int .i64 1)) fun t88 => 
  J t86 t88 w_55) w_54) (World.drew w_53)) (World.drew w_53)) (World.drew w_53)))) w_51) w_48) w_46) w_44) w_42) w_40) w_38) w_36) w_34) w_32) (World.drew w_30)) [v_j] w_29)) w_27) w_25) w_22) w_20) w_18) w_16) w_14) w_12) w_10) w_8) w_6) (World.drew w_4)) [v_i] w_3) [t28, t30] w_2) w_1) (World.drew w)) (World.drew w)) (World.drew w)
theorem eq56 (v_data v_a v_b v_pivot v_cmp : Value) (Q : Value → World → Prop) (w : World) : semF Try.prog 56 [v_data, v_a, v_b, v_pivot, v_cmp] Q w = S56 v_data v_a v_b v_pivot v_cmp Q w := by kernel_rfl
theorem ref56 {v_data v_a v_b v_pivot v_cmp : Value} {Q : Value → World → Prop} {w : World} (h : S56 v_data v_a v_b v_pivot v_cmp Q w) : callS Try.prog 56 #[v_data, v_a, v_b, v_pivot, v_cmp] Q w :=
  callS_of mix (fun a w => Try.call56 a w) (by kernel_rfl) (by rw [eq56]; exact h)
-- slices.partitionCmpFunc[commons/imap.Part[int]]
def S57 (v_data v_a v_b v_pivot v_cmp : Value) (Q : Value → World → Prop) (w : World) : Prop :=
 pur Try.prog (Instr.indexAt 57 v_data v_pivot) fun t20 => 
 rd Try.prog (Instr.loadAt 60 t20) (fun t21 => 
 pur Try.prog (Instr.indexAt 57 v_data v_a) fun t24 => 
 rd Try.prog (Instr.loadAt 60 t24) (fun t25 => 
 pur Try.prog (Instr.indexAt 57 v_data v_a) fun t26 => 
 act Try.prog (thenU (Instr.storeAt 60 t26 t21)) (fun _ w_1 => 
 pur Try.prog (Instr.indexAt 57 v_data v_pivot) fun t27 => 
 act Try.prog (thenU (Instr.storeAt 60 t27 t25)) (fun _ w_2 => 
 pur Try.prog (binS .add 3 false true v_a (.int .i64 1)) fun t29 => 
 pur Try.prog (binS .sub 3 false true v_b (.int .i64 1)) fun t31 => 
 lp 1 (fun J => fun v_i w_3 => ∀ _j : Fr, 
  pur Try.prog (binS .leq 3 false false v_i t31) fun t34 => 
  gd t34 true (fun k w_4 => k v_cmp w_4) (fun t36_1 w_5 => 
  gd t34 true (fun k_1 w_6 => k_1 v_data w_6) (fun t37_1 w_7 => 
  gd t34 true (fun k_2 w_8 => k_2 v_i w_8) (fun t38_1 w_9 => 
  gd t34 true (fun k_3 w_10 => pur Try.prog (Instr.indexAt 57 t37_1 t38_1) fun t39 => k_3 t39 w_10) (fun t39_1 w_11 => 
  gd t34 true (fun k_4 w_12 => rd Try.prog (Instr.loadAt 60 t39_1) (fun t40 => k_4 t40 w_12) w_12) (fun t40_1 w_13 => 
  gd t34 true (fun k_5 w_14 => k_5 v_data w_14) (fun t41_1 w_15 => 
  gd t34 true (fun k_6 w_16 => k_6 v_a w_16) (fun t42_1 w_17 => 
  gd t34 true (fun k_7 w_18 => pur Try.prog (Instr.indexAt 57 t41_1 t42_1) fun t43 => k_7 t43 w_18) (fun t43_1 w_19 => 
  gd t34 true (fun k_8 w_20 => rd Try.prog (Instr.loadAt 60 t43_1) (fun t44 => k_8 t44 w_20) w_20) (fun t44_1 w_21 => 
  gd t34 true (fun k_9 w_22 => callF Try.prog t36_1 #[t40_1, t44_1] (fun t45 w_23 => k_9 t45 w_23) w_22) (fun t45_1 w_24 => 
  gd t34 true (fun k_10 w_25 => pur Try.prog (binS .lss 3 false true t45_1 (.int .i64 0)) fun t46 => k_10 t46 w_25) (fun t46_1 w_26 => 
  pur Try.prog (pickS t34 t46_1 (.bool false)) fun t47 => 
  condS t47
   (pur Try.prog (binS .add 3 false true v_i (.int .i64 1)) fun t49 => 
  J t49 w_26)
   (lp 1 (fun J_1 => fun v_j w_27 => ∀ _j : Fr, 
  pur Try.prog (binS .leq 3 false false v_i v_j) fun t52 => 
  gd t52 true (fun k_11 w_28 => k_11 v_cmp w_28) (fun t54_1 w_29 => 
  gd t52 true (fun k_12 w_30 => k_12 v_data w_30) (fun t55_1 w_31 => 
  gd t52 true (fun k_13 w_32 => k_13 v_j w_32) (fun t56_1 w_33 => 
  gd t52 true (fun k_14 w_34 => pur Try.prog (Instr.indexAt 57 t55_1 t56_1) fun t57 => k_14 t57 w_34) (fun t57_1 w_35 => 
  gd t52 true (fun k_15 w_36 => rd Try.prog (Instr.loadAt 60 t57_1) (fun t58 => k_15 t58 w_36) w_36) (fun t58_1 w_37 => 
  gd t52 true (fun k_16 w_38 => k_16 v_data w_38) (fun t59_1 w_39 => 
  gd t52 true (fun k_17 w_40 => k_17 v_a w_40) (fun t60_1 w_41 => 
  gd t52 true (fun k_18 w_42 => pur Try.prog (Instr.indexAt 57 t59_1 t60_1) fun t61 => k_18 t61 w_42) (fun t61_1 w_43 => 
  gd t52 true (fun k_19 w_44 => rd Try.prog (Instr.loadAt 60 t61_1) (fun t62 => k_19 t62 w_44) w_44) (fun t62_1 w_45 => 
  gd t52 true (fun k_20 w_46 => callF Try.prog t54_1 #[t58_1, t62_1] (fun t63 w_47 => k_20 t63 w_47) w_46) (fun t63_1 w_48 => 
  gd t52 true (fun k_21 w_49 => pur Try.prog (binS .lss 3 false true t63_1 (.int .i64 0)) fun t64 => k_21 t64 w_49) (fun t64_1 w_50 => 
  gd t52 true (fun k_22 w_51 => pur Try.prog (Op.unary .not t64_1) fun t65 => k_22 t65 w_51) (fun t65_1 w_52 => 
  pur Try.prog (pickS t52 t65_1 (.bool false)) fun t66 => 
  condS t66
   (pur Try.prog (binS .sub 3 false true v_j (.int .i64 1)) fun t68 => 
  J_1 t68 w_52)
   (pur Try.prog (binS .gtr 3 false false v_i v_j) fun t71 => 
 condS t71
  (pur Try.prog (Instr.indexAt 57 v_data v_a) fun t78 => 
  rd Try.prog (Instr.loadAt 60 t78) (fun t79 => 
  pur Try.prog (Instr.indexAt 57 v_data v_j) fun t82 => 
  rd Try.prog (Instr.loadAt 60 t82) (fun t83 => 
  pur Try.prog (Instr.indexAt 57 v_data v_j) fun t84 => 
  act Try.prog (thenU (Instr.storeAt 60 t84 t79)) (fun _ w_53 => 
  pur Try.prog (Instr.indexAt 57 v_data v_a) fun t85 => 
  act Try.prog (thenU (Instr.storeAt 60 t85 t83)) (fun _ w_54 => 
  Q (.tuple #[v_j, (.bool true)]) w_54) w_53) (World.drew w_52)) (World.drew w_52)) (World.drew w_52))
  (pur Try.prog (Instr.indexAt 57 v_data v_j) fun t93 => 
 rd Try.prog (Instr.loadAt 60 t93) (fun t94 => 
 pur Try.prog (Instr.indexAt 57 v_data v_i) fun t97 => 
 rd Try.prog (Instr.loadAt 60 t97) (fun t98 => 
 pur Try.prog (Instr.indexAt 57 v_data v_i) fun t99 => 
 act Try.prog (thenU (Instr.storeAt 60 t99 t94)) (fun _ w_55 => 
 pur Try.prog (Instr.indexAt 57 v_data v_j) fun t100 => 
 act Try.prog (thenU (Instr.storeAt 60 t100 t98)) (fun _ w_56 => 
 pur Try.prog (binS .add 3 false true v_i (.int .i64 1)) fun t102 => 
 pur Try.prog (binS .sub 3 false true v_j (.int .i64 1)) fun t104 => 
 lp 2 (fun J_2 => fun v_i_1 v_j_1 w_57 => ∀ _j : Fr, 
  lp 1 (fun J_3 => fun v_i_2 w_58 => ∀ _j : Fr, 
   pur Try.prog (binS .leq 3 false false v_i_2 v_j_1) fun t107 => 
   gd t107 true (fun k_23 w_59 => k_23 v_cmp w_59) (fun t109_1 w_60 => 
   gd t107 true (fun k_24 w_61 => k_24 v_data w_61) (fun t110_1 w_62 => 
   gd t107 true (fun k_25 w_63 => k_25 v_i_2 w_63) (fun t111_1 w_64 => 
   gd t107 true (fun k_26 w_65 => pur Try.prog (Instr.indexAt 57 t110_1 t111_1) fun t112 => k_26 t112 w_65) (fun t112_1 w_66 => 
   gd t107 true (fun k_27 w_67 => rd Try.prog (Instr.loadAt 60 t112_1) (fun t113 => k_27 t113 w_67) w_67) (fun t113_1 w_68 => 
   gd t107 true (fun k_28 w_69 => k_28 v_data w_69) (fun t114_1 w_70 => 
   gd t107 true (fun k_29 w_71 => k_29 v_a w_71) (fun t115_1 w_72 => 
   gd t107 true (fun k_30 w_73 => pur Try.prog (Instr.indexAt 57 t114_1 t115_1) fun t116 => k_30 t116 w_73) (fun t116_1 w_74 => 
   gd t107 true (fun k_31 w_75 => rd Try.prog (Instr.loadAt 60 t116_1) (fun t117 => k_31 t117 w_75) w_75) (fun t117_1 w_76 => 
   gd t107 true (fun k_32 w_77 => callF Try.prog t109_1 #[t113_1, t117_1] (fun t118 w_78 => k_32 t118 w_78) w_77) (fun t118_1 w_79 => 
   gd t107 true (fun k_33 w_80 => pur Try.prog (binS .lss 3 false true t118_1 (.int .i64 0)) fun t119 => k_33 t119 w_80) (fun t119_1 w_81 => 
   pur Try.prog (pickS t107 t119_1 (.bool false)) fun t120 => 
   condS t120
    (pur Try.prog (binS .add 3 false true v_i_2 (.int .i64 1)) fun t122 => 
   J_3 t122 w_81)
    (lp 1 (fun J_4 => fun v_j_2 w_82 => ∀ _j : Fr, 
   pur Try.prog (binS .leq 3 false false v_i_2 v_j_2) fun t125 => 
   gd t125 true (fun k_34 w_83 => k_34 v_cmp w_83) (fun t127_1 w_84 => 
   gd t125 true (fun k_35 w_85 => k_35 v_data w_85) (fun t128_1 w_86 => 
   gd t125 true (fun k_36 w_87 => k_36 v_j_2 w_87) (fun t129_1 w_88 => 
   gd t125 true (fun k_37 w_89 => pur Try.prog (Instr.indexAt 57 t128_1 t129_1) fun t130 => k_37 t130 w_89) (fun t130_1 w_90 => 
   gd t125 true (fun k_38 w_91 => rd Try.prog (Instr.loadAt 60 t130_1) (fun t131 => k_38 t131 w_91) w_91) (fun t131_1 w_92 => 
   gd t125 true (fun k_39 w_93 => k_39 v_data w_93) (fun t132_1 w_94 => 
   gd t125 true (fun k_40 w_95 => k_40 v_a w_95) (fun t133_1 w_96 => 
   gd t125 true (fun k_41 w_97 => pur Try.prog (Instr.indexAt 57 t132_1 t133_1) fun t134 => k_41 t134 w_97) (fun t134_1 w_98 => 
   gd t125 true (fun k_42 w_99 => rd Try.prog (Instr.loadAt 60 t134_1) (fun t135 => k_42 t135 w_99) w_99) (fun t135_1 w_100 => 
   gd t125 true (fun k_43 w_101 => callF Try.prog t127_1 #[t131_1, t135_1] (fun t136 w_102 => k_43 t136 w_102) w_101) (fun t136_1 w_103 => 
   gd t125 true (fun k_44 w_104 => pur Try.prog (binS .lss 3 false true t136_1 (.int .i64 0)) fun t137 => k_44 t137 w_104) (fun t137_1 w_105 => 
   gd t125 true (fun k_45 w_106 => pur Try.prog (Op.unary .not t137_1) fun t138 => k_45 t138 w_106) (fun t138_1 w_107 => 
   pur Try.prog (pickS t125 t138_1 (.bool false)) fun t139 => 
   condS t139
    (pur Try.prog (binS .sub 3 false true v_j_2 (.int .i64 1)) fun t141 => 
   J_4 t141 w_107)
    (pur Try.prog (binS .gtr 3 false false v_i_2 v_j_2) fun t144 => 
  condS t144
   (pur Try.prog (Instr.indexAt 57 v_data v_a) fun t169 => 
 rd Try.prog (Instr.loadAt 60 t169) (fun t170 => 
 pur Try.prog (Instr.indexAt 57 v_data v_j_2) fun t173 => 
 rd Try.prog (Instr.loadAt 60 t173) (fun t174 => 
 pur Try.prog (Instr.indexAt 57 v_data v_j_2) fun t175 => 
 act Try.prog (thenU (Instr.storeAt 60 t175 t170)) (fun _ w_108 => 
 pur Try.prog (Instr.indexAt 57 v_data v_a) fun t176 => 
 act Try.prog (thenU (Instr.storeAt 60 t176 t174)) (fun _ w_109 => 
 Q (.tuple #[v_j_2, (.bool false)]) w_109) w_108) (World.drew w_107)) (World.drew w_107)) (World.drew w_107))
   (pur Try.prog (Instr.indexAt 57 v_data v_j_2) fun t151 => 
  rd Try.prog (Instr.loadAt 60 t151) (fun t152 => 
  pur Try.prog (Instr.indexAt 57 v_data v_i_2) fun t155 => 
  rd Try.prog (Instr.loadAt 60 t155) (fun t156 => 
  pur Try.prog (Instr.indexAt 57 v_data v_i_2) fun t157 => 
  act Try.prog (thenU (Instr.storeAt 60 t157 t152)) (fun _ w_110 => 
  pur Try.prog (Instr.indexAt 57 v_data v_j_2) fun t158 => 
  act Try.prog (thenU (Instr.storeAt 60 t158 t156)) (fun _ w_111 => 
  pur Try.prog (binS .add 3 false true v_i_2 (.int .i64 1)) fun t160 => 
  pur Try.prog (binS .sub 3 false true v_j_2 (.int .i64 1)) fun t162 => 
  J_2 t160 t162 w_111) w_110) (World.drew w_107)) (World.drew w_107)) (World.drew w_107)))) w_105) w_103) w_100) w_98) w_96) w_94) w_92) w_90) w_88) w_86) w_84) (World.drew w_82)) [v_j_1] w_81)) w_79) w_76) w_74) w_72) w_70) w_68) w_66) w_64) w_62) w_60) (World.drew w_58)) [v_i_1] w_57) [t102, t104] w_56) w_55) (World.drew w_52)) (World.drew w_52)) (World.drew w_52)))) w_50) w_48) w_45) w_43) w_41) w_39) w_37) w_35) w_33) w_31) w_29) (World.drew w_27)) [t31] w_26)) w_24) w_21) w_19) w_17) w_15) w_13) w_11) w_9) w_7) w_5) (World.drew w_3)) [t29] w_2) w_1) (World.drew w)) (World.drew w)) (World.drew w)
theorem eq57 (v_data v_a v_b v_pivot v_cmp : Value) (Q : Value → World → Prop) (w : World) : semF Try.prog 57 [v_data, v_a, v_b, v_pivot, v_cmp] Q w = S57 v_data v_a v_b v_pivot v_cmp Q w := by kernel_rfl
theorem ref57 {v_data v_a v_b v_pivot v_cmp : Value} {Q : Value → World → Prop} {w : World} (h : S57 v_data v_a v_b v_pivot v_cmp Q w) : callS Try.prog 57 #[v_data, v_a, v_b, v_pivot, v_cmp] Q w :=
  callS_of mix (fun a w => Try.call57 a w) (by kernel_rfl) (by rw [eq57]; exact h)
-- math/bits.Len32
def S58 (v_x : Value) (Q : Value → World → Prop) (w : World) : Prop :=
 jn 2 (fun J => 
  pur Try.prog (binS .geq 87 false true v_x (.int .u32 65536)) fun t4 => 
  condS t4
   (pur Try.prog (binS .shr 87 false true v_x (.int .u64 16)) fun t6 => 
   J t6 (.int .i64 16) w)
   (J v_x (.int .i64 0) w))
 (fun v_x_1 v_n w_1 => ∀ _j : Fr, 
  jn 2 (fun J_1 => 
   pur Try.prog (binS .geq 87 false true v_x_1 (.int .u32 256)) fun t8 => 
   condS t8
    (pur Try.prog (binS .shr 87 false true v_x_1 (.int .u64 8)) fun t10 => 
    pur Try.prog (binS .add 3 false true v_n (.int .i64 8)) fun t12 => 
    J_1 t10 t12 w_1)
    (J_1 v_x_1 v_n w_1))
  (fun v_x_2 v_n_1 w_2 => ∀ _j : Fr, 
   pur Try.prog (convert 87 5 v_x_2) fun t15 => 
   pur Try.prog (Instr.index 9 (.string ⟨#[0, 1, 2, 2, 3, 3, 3, 3, 4, 4, 4, 4, 4, 4, 4, 4, 5, 5, 5, 5, 5, 5, 5, 5, 5, 5, 5, 5, 5, 5, 5, 5, 6, 6, 6, 6, 6, 6, 6, 6, 6, 6, 6, 6, 6, 6, 6, 6, 6, 6, 6, 6, 6, 6, 6, 6, 6, 6, 6, 6, 6, 6, 6, 6, 7, 7, 7, 7, 7, 7, 7, 7, 7, 7, 7, 7, 7, 7, 7, 7, 7, 7, 7, 7, 7, 7, 7, 7, 7, 7, 7, 7, 7, 7, 7, 7, 7, 7, 7, 7, 7, 7, 7, 7, 7, 7, 7, 7, 7, 7, 7, 7, 7, 7, 7, 7, 7, 7, 7, 7, 7, 7, 7, 7, 7, 7, 7, 7, 8, 8, 8, 8, 8, 8, 8, 8, 8, 8, 8, 8, 8, 8, 8, 8, 8, 8, 8, 8, 8, 8, 8, 8, 8, 8, 8, 8, 8, 8, 8, 8, 8, 8, 8, 8, 8, 8, 8, 8, 8, 8, 8, 8, 8, 8, 8, 8, 8, 8, 8, 8, 8, 8, 8, 8, 8, 8, 8, 8, 8, 8, 8, 8, 8, 8, 8, 8, 8, 8, 8, 8, 8, 8, 8, 8, 8, 8, 8, 8, 8, 8, 8, 8, 8, 8, 8, 8, 8, 8, 8, 8, 8, 8, 8, 8, 8, 8, 8, 8, 8, 8, 8, 8, 8, 8, 8, 8, 8, 8, 8, 8, 8, 8, 8, 8, 8, 8, 8, 8, 8, 8, 8, 8, 8, 8, 8, 8]⟩) t15) fun t16 => 
   pur Try.prog (convert 5 3 t16) fun t17 => 
   pur Try.prog (binS .add 3 false false v_n_1 t17) fun t18 => 
   Q t18 w_2))
theorem eq58 (v_x : Value) (Q : Value → World → Prop) (w : World) : semF Try.prog 58 [v_x] Q w = S58 v_x Q w := by kernel_rfl
theorem ref58 {v_x : Value} {Q : Value → World → Prop} {w : World} (h : S58 v_x Q w) : callS Try.prog 58 #[v_x] Q w :=
  callS_of mix (fun a w => Try.call58 a w) (by kernel_rfl) (by rw [eq58]; exact h)
-- math/bits.Len64
def S59 (v_x : Value) (Q : Value → World → Prop) (w : World) : Prop :=
 jn 2 (fun J => 
  pur Try.prog (binS .geq 89 false true v_x (.int .u64 4294967296)) fun t4 => 
  condS t4
   (pur Try.prog (binS .shr 89 false true v_x (.int .u64 32)) fun t6 => 
   J t6 (.int .i64 32) w)
   (J v_x (.int .i64 0) w))
 (fun v_x_1 v_n w_1 => ∀ _j : Fr, 
  jn 2 (fun J_1 => 
   pur Try.prog (binS .geq 89 false true v_x_1 (.int .u64 65536)) fun t8 => 
   condS t8
    (pur Try.prog (binS .shr 89 false true v_x_1 (.int .u64 16)) fun t10 => 
    pur Try.prog (binS .add 3 false true v_n (.int .i64 16)) fun t12 => 
    J_1 t10 t12 w_1)
    (J_1 v_x_1 v_n w_1))
  (fun v_x_2 v_n_1 w_2 => ∀ _j : Fr, 
   jn 2 (fun J_2 => 
    pur Try.prog (binS .geq 89 false true v_x_2 (.int .u64 256)) fun t14 => 
    condS t14
     (pur Try.prog (binS .shr 89 false true v_x_2 (.int .u64 8)) fun t16 => 
     pur Try.prog (binS .add 3 false true v_n_1 (.int .i64 8)) fun t18 => 
     J_2 t16 t18 w_2)
     (J_2 v_x_2 v_n_1 w_2))
   (fun v_x_3 v_n_2 w_3 => ∀ _j : Fr, 
    pur Try.prog (convert 89 5 v_x_3) fun t21 => 
    pur Try.prog (Instr.index 9 (.string ⟨#[0, 1, 2, 2, 3, 3, 3, 3, 4, 4, 4, 4, 4, 4, 4, 4, 5, 5, 5, 5, 5, 5, 5, 5, 5, 5, 5, 5, 5, 5, 5, 5, 6, 6, 6, 6, 6, 6, 6, 6, 6, 6, 6, 6, 6, 6, 6, 6, 6, 6, 6, 6, 6, 6, 6, 6, 6, 6, 6, 6, 6, 6, 6, 6, 7, 7, 7, 7, 7, 7, 7, 7, 7, 7, 7, 7, 7, 7, 7, 7, 7, 7, 7, 7, 7, 7, 7, 7, 7, 7, 7, 7, 7, 7, 7, 7, 7, 7, 7, 7, 7, 7, 7, 7, 7, 7, 7, 7, 7, 7, 7, 7, 7, 7, 7, 7, 7, 7, 7, 7, 7, 7, 7, 7, 7, 7, 7, 7, 8, 8, 8, 8, 8, 8, 8, 8, 8, 8, 8, 8, 8, 8, 8, 8, 8, 8, 8, 8, 8, 8, 8, 8, 8, 8, 8, 8, 8, 8, 8, 8, 8, 8, 8, 8, 8, 8, 8, 8, 8, 8, 8, 8, 8, 8, 8, 8, 8, 8, 8, 8, 8, 8, 8, 8, 8, 8, 8, 8, 8, 8, 8, 8, 8, 8, 8, 8, 8, 8, 8, 8, 8, 8, 8, 8, 8, 8, 8, 8, 8, 8, 8, 8, 8, 8, 8, 8, 8, 8, 8, 8, 8, 8, 8, 8, 8, 8, 8, 8, 8, 8, 8, 8, 8, 8, 8, 8, 8, 8, 8, 8, 8, 8, 8, 8, 8, 8, 8, 8, 8, 8, 8, 8, 8, 8, 8, 8]⟩) t21) fun t22 => 
    pur Try.prog (convert 5 3 t22) fun t23 => 
    pur Try.prog (binS .add 3 false false v_n_2 t23) fun t24 => 
    Q t24 w_3)))
theorem eq59 (v_x : Value) (Q : Value → World → Prop) (w : World) : semF Try.prog 59 [v_x] Q w = S59 v_x Q w := by kernel_rfl
theorem ref59 {v_x : Value} {Q : Value → World → Prop} {w : World} (h : S59 v_x Q w) : callS Try.prog 59 #[v_x] Q w :=
  callS_of mix (fun a w => Try.call59 a w) (by kernel_rfl) (by rw [eq59]; exact h)
-- slices.DeleteFunc[[]commons/api.Span,commons/api.Span]
def S60 (v_s v_del : Value) (Q : Value → World → Prop) (w : World) : Prop :=
 callS Try.prog 71 #[v_s, v_del] (fun t10 w_1 => 
 pur Try.prog (binS .eql 3 false true t10 (.int .i64 (-1))) fun t12 => 
 condS t12
  (Q v_s w_1)
  (pur Try.prog (binS .add 3 false true t10 (.int .i64 1)) fun t15 => 
 lp 2 (fun J => fun v_i v_j w_2 => ∀ _j : Fr, 
  pur Try.prog (Builtin.len_ #[71] 3 #[v_s]) fun t18 => 
  pur Try.prog (binS .lss 3 false false v_j t18) fun t19 => 
  condS t19
   (jn 1 (fun J_1 => 
   pur Try.prog (Instr.indexAt 71 v_s v_j) fun t24 => 
   rd Try.prog (Instr.loadAt 25 t24) (fun t25 => 
   act Try.prog (Instr.alloc 25 true (.tuple #[])) (fun t7 w_3 => 
   act Try.prog (thenU (Instr.storeAt 25 t7 t25)) (fun _ w_4 => 
   rd Try.prog (Instr.loadAt 25 t7) (fun t27 => 
   callF Try.prog v_del #[t27] (fun t28 w_5 => 
   pur Try.prog (Op.unary .not t28) fun t29 => 
   condS t29
    (rd Try.prog (Instr.loadAt 25 t7) (fun t32 => 
    pur Try.prog (Instr.indexAt 71 v_s v_i) fun t33 => 
    act Try.prog (thenU (Instr.storeAt 25 t33 t32)) (fun _ w_6 => 
    pur Try.prog (binS .add 3 false true v_i (.int .i64 1)) fun t35 => 
    J_1 t35 w_6) w_5) w_5)
    (J_1 v_i w_5)) w_4) w_4) w_3) w_2) w_2)
  (fun v_i_1 w_7 => ∀ _j : Fr, 
   pur Try.prog (binS .add 3 false true v_j (.int .i64 1)) fun t21 => 
   J v_i_1 t21 w_7))
   (pur Try.prog (Instr.sliceAt 71 v_s (some v_i) none none) fun t38 => 
 act Try.prog (Builtin.clear_ #[71] 0 #[t38]) (fun _ w_8 => 
 pur Try.prog (Instr.sliceAt 71 v_s none (some v_i) none) fun t41 => 
 Q t41 w_8) w_2)) [t10, t15] w_1)) w
theorem eq60 (v_s v_del : Value) (Q : Value → World → Prop) (w : World) : semF Try.prog 60 [v_s, v_del] Q w = S60 v_s v_del Q w := by kernel_rfl
theorem ref60 {v_s v_del : Value} {Q : Value → World → Prop} {w : World} (h : S60 v_s v_del Q w) : callS Try.prog 60 #[v_s, v_del] Q w :=
  callS_of mix (fun a w => Try.call60 a w) (by kernel_rfl) (by rw [eq60]; exact h)
-- slices.Clone[[]commons/api.Span,commons/api.Span]
def S61 (v_s : Value) (Q : Value → World → Prop) (w : World) : Prop :=
 rd Try.prog (binS .eql 71 false true v_s (.slice none 0 0)) (fun t4 => 
 condS t4
  (Q (.slice none 0 0) w)
  (act Try.prog (Instr.buildSlice 71 0 #[]) (fun t5 w_1 => 
 act Try.prog (Builtin.append_ #[71, 71] 71 #[t5, v_s]) (fun t7 w_2 => 
 Q t7 w_2) w_1) w)) w
theorem eq61 (v_s : Value) (Q : Value → World → Prop) (w : World) : semF Try.prog 61 [v_s] Q w = S61 v_s Q w := by kernel_rfl
theorem ref61 {v_s : Value} {Q : Value → World → Prop} {w : World} (h : S61 v_s Q w) : callS Try.prog 61 #[v_s] Q w :=
  callS_of mix (fun a w => Try.call61 a w) (by kernel_rfl) (by rw [eq61]; exact h)
-- commons/span.Norm$1
def S62 (v_s : Value) (Q : Value → World → Prop) (w : World) : Prop :=
 act Try.prog (Instr.box 25 v_s) (fun t1 w_1 => 
 rd Try.prog (Instr.loadAt 25 t1) (fun t3 => 
 callS Try.prog 32 #[t3] (fun t4 w_2 => 
 pur Try.prog (Op.unary .not t4) fun t5 => 
 Q t5 w_2) w_1) w_1) w
theorem eq62 (v_s : Value) (Q : Value → World → Prop) (w : World) : semF Try.prog 62 [v_s] Q w = S62 v_s Q w := by kernel_rfl
theorem ref62 {v_s : Value} {Q : Value → World → Prop} {w : World} (h : S62 v_s Q w) : callS Try.prog 62 #[v_s] Q w :=
  callS_of mix (fun a w => Try.call62 a w) (by kernel_rfl) (by rw [eq62]; exact h)
-- slices.SortFunc[[]commons/api.Span,commons/api.Span]
def S63 (v_x v_cmp : Value) (Q : Value → World → Prop) (w : World) : Prop :=
 pur Try.prog (Builtin.len_ #[71] 3 #[v_x]) fun t6 => 
 pur Try.prog (convert 3 76 t6) fun t10 => 
 callS Try.prog 46 #[t10] (fun t11 w_1 => 
 callS Try.prog 72 #[v_x, (.int .i64 0), t6, t11, v_cmp] (fun _ w_2 => 
 Q (.tuple #[]) w_2) w_1) w
theorem eq63 (v_x v_cmp : Value) (Q : Value → World → Prop) (w : World) : semF Try.prog 63 [v_x, v_cmp] Q w = S63 v_x v_cmp Q w := by kernel_rfl
theorem ref63 {v_x v_cmp : Value} {Q : Value → World → Prop} {w : World} (h : S63 v_x v_cmp Q w) : callS Try.prog 63 #[v_x, v_cmp] Q w :=
  callS_of mix (fun a w => Try.call63 a w) (by kernel_rfl) (by rw [eq63]; exact h)
-- commons/span.Norm$2
def S64 (v_a v_b : Value) (Q : Value → World → Prop) (w : World) : Prop :=
 act Try.prog (Instr.box 25 v_a) (fun t2 w_1 => 
 act Try.prog (Instr.box 25 v_b) (fun t3 w_2 => 
 ∃ S : World → Prop, S (World.drew w_2) ∧ 
 pur Try.prog (Instr.fieldAt 25 t2 0) fun t5 => 
 hld Try.prog S (Instr.loadAt 3 t5) fun t6 => 
 pur Try.prog (Instr.fieldAt 25 t3 0) fun t7 => 
 hld Try.prog S (Instr.loadAt 3 t7) fun t8 => 
 callS Try.prog 42 #[t6, t8] (fun t9 w_3 => S w_3 ∧ 
 pur Try.prog (Instr.fieldAt 25 t2 1) fun t10 => 
 hld Try.prog S (Instr.loadAt 3 t10) fun t11 => 
 pur Try.prog (Instr.fieldAt 25 t3 1) fun t12 => 
 hld Try.prog S (Instr.loadAt 3 t12) fun t13 => 
 callS Try.prog 42 #[t11, t13] (fun t14 w_4 => S w_4 ∧ 
 act Try.prog (Instr.buildSlice 103 2 #[(0, t9), (1, t14)]) (fun t15 w_5 => S w_5 ∧ 
 callS Try.prog 65 #[t15] (fun t16 w_6 => S w_6 ∧ 
 Q t16 w_6) w_5) w_4) w_3) (World.drew w_2)) w_1) w
theorem eq64 (v_a v_b : Value) (Q : Value → World → Prop) (w : World) : semF Try.prog 64 [v_a, v_b] Q w = S64 v_a v_b Q w := by kernel_rfl
theorem ref64 {v_a v_b : Value} {Q : Value → World → Prop} {w : World} (h : S64 v_a v_b Q w) : callS Try.prog 64 #[v_a, v_b] Q w :=
  callS_of mix (fun a w => Try.call64 a w) (by kernel_rfl) (by rw [eq64]; exact h)
-- cmp.Or[int]
def S65 (v_vals : Value) (Q : Value → World → Prop) (w : World) : Prop :=
 pur Try.prog (Builtin.len_ #[103] 3 #[v_vals]) fun t7 => 
 lp 1 (fun J => fun t8 w_1 => ∀ _j : Fr, 
  pur Try.prog (binS .lss 3 false false t8 t7) fun t9 => 
  condS t9
   (pur Try.prog (Instr.indexAt 103 v_vals t8) fun t10 => 
  rd Try.prog (Instr.loadAt 3 t10) (fun t11 => 
  pur Try.prog (binS .neq 3 false false t11 (.int .i64 0)) fun t14 => 
  condS t14
   (Q t11 w_1)
   (pur Try.prog (binS .add 3 false true t8 (.int .i64 1)) fun t16 => 
  J t16 w_1)) w_1)
   (Q (.int .i64 0) w_1)) [(.int .i64 0)] w
theorem eq65 (v_vals : Value) (Q : Value → World → Prop) (w : World) : semF Try.prog 65 [v_vals] Q w = S65 v_vals Q w := by kernel_rfl
theorem ref65 {v_vals : Value} {Q : Value → World → Prop} {w : World} (h : S65 v_vals Q w) : callS Try.prog 65 #[v_vals] Q w :=
  callS_of mix (fun a w => Try.call65 a w) (by kernel_rfl) (by rw [eq65]; exact h)
-- slices.siftDownCmpFunc[commons/imap.Part[int]]
def S66 (v_data v_lo v_hi v_first v_cmp : Value) (Q : Value → World → Prop) (w : World) : Prop :=
 lp 1 (fun J => fun v_root w_1 => ∀ _j : Fr, 
  pur Try.prog (binS .mul 3 true false (.int .i64 2) v_root) fun t14 => 
  pur Try.prog (binS .add 3 false true t14 (.int .i64 1)) fun t15 => 
  pur Try.prog (binS .geq 3 false false t15 v_hi) fun t18 => 
  condS t18
   (Q (.tuple #[]) w_1)
   (jn 1 (fun J_1 => 
   pur Try.prog (binS .add 3 false true t15 (.int .i64 1)) fun t20 => 
   pur Try.prog (binS .lss 3 false false t20 v_hi) fun t22 => 
   gd t22 true (fun k w_2 => k v_cmp w_2) (fun t24_1 w_3 => 
   gd t22 true (fun k_1 w_4 => k_1 v_data w_4) (fun t25_1 w_5 => 
   gd t22 true (fun k_2 w_6 => k_2 v_first w_6) (fun t26_1 w_7 => 
   gd t22 true (fun k_3 w_8 => k_3 t15 w_8) (fun t27_1 w_9 => 
   gd t22 true (fun k_4 w_10 => pur Try.prog (binS .add 3 false false t26_1 t27_1) fun t28 => k_4 t28 w_10) (fun t28_1 w_11 => 
   gd t22 true (fun k_5 w_12 => pur Try.prog (Instr.indexAt 57 t25_1 t28_1) fun t29 => k_5 t29 w_12) (fun t29_1 w_13 => 
   gd t22 true (fun k_6 w_14 => rd Try.prog (Instr.loadAt 60 t29_1) (fun t30 => k_6 t30 w_14) w_14) (fun t30_1 w_15 => 
   gd t22 true (fun k_7 w_16 => k_7 v_data w_16) (fun t31_1 w_17 => 
   gd t22 true (fun k_8 w_18 => k_8 v_first w_18) (fun t32_1 w_19 => 
   gd t22 true (fun k_9 w_20 => k_9 t15 w_20) (fun t33_1 w_21 => 
   gd t22 true (fun k_10 w_22 => pur Try.prog (binS .add 3 false false t32_1 t33_1) fun t34 => k_10 t34 w_22) (fun t34_1 w_23 => 
   gd t22 true (fun k_11 w_24 => pur Try.prog (binS .add 3 false true t34_1 (.int .i64 1)) fun t35 => k_11 t35 w_24) (fun t35_1 w_25 => 
   gd t22 true (fun k_12 w_26 => pur Try.prog (Instr.indexAt 57 t31_1 t35_1) fun t36 => k_12 t36 w_26) (fun t36_1 w_27 => 
   gd t22 true (fun k_13 w_28 => rd Try.prog (Instr.loadAt 60 t36_1) (fun t37 => k_13 t37 w_28) w_28) (fun t37_1 w_29 => 
   gd t22 true (fun k_14 w_30 => callF Try.prog t24_1 #[t30_1, t37_1] (fun t38 w_31 => k_14 t38 w_31) w_30) (fun t38_1 w_32 => 
   gd t22 true (fun k_15 w_33 => pur Try.prog (binS .lss 3 false true t38_1 (.int .i64 0)) fun t39 => k_15 t39 w_33) (fun t39_1 w_34 => 
   pur Try.prog (pickS t22 t39_1 (.bool false)) fun t40 => 
   condS t40
    (pur Try.prog (binS .add 3 false true t15 (.int .i64 1)) fun t42 => 
    J_1 t42 w_34)
    (J_1 t15 w_34)) w_32) w_29) w_27) w_25) w_23) w_21) w_19) w_17) w_15) w_13) w_11) w_9) w_7) w_5) w_3) (World.drew w_1))
  (fun v_child w_35 => ∀ _j : Fr, 
   pur Try.prog (binS .add 3 false false v_first v_root) fun t47 => 
   pur Try.prog (Instr.indexAt 57 v_data t47) fun t48 => 
   rd Try.prog (Instr.loadAt 60 t48) (fun t49 => 
   pur Try.prog (binS .add 3 false false v_first v_child) fun t53 => 
   pur Try.prog (Instr.indexAt 57 v_data t53) fun t54 => 
   rd Try.prog (Instr.loadAt 60 t54) (fun t55 => 
   callF Try.prog v_cmp #[t49, t55] (fun t56 w_36 => 
   pur Try.prog (binS .lss 3 false true t56 (.int .i64 0)) fun t57 => 
   pur Try.prog (Op.unary .not t57) fun t58 => 
   condS t58
    (Q (.tuple #[]) w_36)
    (pur Try.prog (binS .add 3 false false v_first v_root) fun t62 => 
   pur Try.prog (binS .add 3 false false v_first v_child) fun t66 => 
   pur Try.prog (binS .add 3 false false v_first v_child) fun t70 => 
   pur Try.prog (Instr.indexAt 57 v_data t70) fun t71 => 
   rd Try.prog (Instr.loadAt 60 t71) (fun t72 => 
   pur Try.prog (binS .add 3 false false v_first v_root) fun t76 => 
   pur Try.prog (Instr.indexAt 57 v_data t76) fun t77 => 
   rd Try.prog (Instr.loadAt 60 t77) (fun t78 => 
   pur Try.prog (Instr.indexAt 57 v_data t62) fun t79 => 
   act Try.prog (thenU (Instr.storeAt 60 t79 t72)) (fun _ w_37 => 
   pur Try.prog (Instr.indexAt 57 v_data t66) fun t80 => 
   act Try.prog (thenU (Instr.storeAt 60 t80 t78)) (fun _ w_38 => 
   J v_child w_38) w_37) (World.drew w_36)) (World.drew w_36)) (World.drew w_36))) (World.drew w_35)) (World.drew w_35)) (World.drew w_35)))) [v_lo] w
theorem eq66 (v_data v_lo v_hi v_first v_cmp : Value) (Q : Value → World → Prop) (w : World) : semF Try.prog 66 [v_data, v_lo, v_hi, v_first, v_cmp] Q w = S66 v_data v_lo v_hi v_first v_cmp Q w := by kernel_rfl
theorem ref66 {v_data v_lo v_hi v_first v_cmp : Value} {Q : Value → World → Prop} {w : World} (h : S66 v_data v_lo v_hi v_first v_cmp Q w) : callS Try.prog 66 #[v_data, v_lo, v_hi, v_first, v_cmp] Q w :=
  callS_of mix (fun a w => Try.call66 a w) (by kernel_rfl) (by rw [eq66]; exact h)
-- slices.nextPowerOfTwo
def S67 (v_length : Value) (Q : Value → World → Prop) (w : World) : Prop :=
 pur Try.prog (convert 3 76 v_length) fun t4 => 
 callS Try.prog 46 #[t4] (fun t5 w_1 => 
 pur Try.prog (binS .shl 76 true false (.int .u64 1) t5) fun t6 => 
 Q t6 w_1) w
theorem eq67 (v_length : Value) (Q : Value → World → Prop) (w : World) : semF Try.prog 67 [v_length] Q w = S67 v_length Q w := by kernel_rfl
theorem ref67 {v_length : Value} {Q : Value → World → Prop} {w : World} (h : S67 v_length Q w) : callS Try.prog 67 #[v_length] Q w :=
  callS_of mix (fun a w => Try.call67 a w) (by kernel_rfl) (by rw [eq67]; exact h)
-- (*slices.xorshift).Next
def S68 (v_r : Value) (Q : Value → World → Prop) (w : World) : Prop :=
 pur Try.prog (nilV v_r) fun t4 => 
 rd Try.prog (Instr.loadAt 95 t4) (fun t5 => 
 pur Try.prog (nilV v_r) fun t7 => 
 rd Try.prog (Instr.loadAt 95 t7) (fun t8 => 
 pur Try.prog (binS .shl 95 false true t8 (.int .u64 13)) fun t9 => 
 pur Try.prog (binS .xor 95 false false t5 t9) fun t10 => 
 pur Try.prog (nilV v_r) fun t11 => 
 act Try.prog (thenU (Instr.storeAt 95 t11 t10)) (fun _ w_1 => 
 pur Try.prog (nilV v_r) fun t13 => 
 rd Try.prog (Instr.loadAt 95 t13) (fun t14 => 
 pur Try.prog (nilV v_r) fun t16 => 
 rd Try.prog (Instr.loadAt 95 t16) (fun t17 => 
 pur Try.prog (binS .shr 95 false true t17 (.int .u64 7)) fun t18 => 
 pur Try.prog (binS .xor 95 false false t14 t18) fun t19 => 
 pur Try.prog (nilV v_r) fun t20 => 
 act Try.prog (thenU (Instr.storeAt 95 t20 t19)) (fun _ w_2 => 
 pur Try.prog (nilV v_r) fun t22 => 
 rd Try.prog (Instr.loadAt 95 t22) (fun t23 => 
 pur Try.prog (nilV v_r) fun t25 => 
 rd Try.prog (Instr.loadAt 95 t25) (fun t26 => 
 pur Try.prog (binS .shl 95 false true t26 (.int .u64 17)) fun t27 => 
 pur Try.prog (binS .xor 95 false false t23 t27) fun t28 => 
 pur Try.prog (nilV v_r) fun t29 => 
 act Try.prog (thenU (Instr.storeAt 95 t29 t28)) (fun _ w_3 => 
 pur Try.prog (nilV v_r) fun t31 => 
 rd Try.prog (Instr.loadAt 95 t31) (fun t32 => 
 Q t32 w_3) w_3) (World.drew w_2)) (World.drew w_2)) (World.drew w_2)) (World.drew w_1)) (World.drew w_1)) (World.drew w_1)) (World.drew w)) (World.drew w)) (World.drew w)
theorem eq68 (v_r : Value) (Q : Value → World → Prop) (w : World) : semF Try.prog 68 [v_r] Q w = S68 v_r Q w := by kernel_rfl
theorem ref68 {v_r : Value} {Q : Value → World → Prop} {w : World} (h : S68 v_r Q w) : callS Try.prog 68 #[v_r] Q w :=
  callS_of mix (fun a w => Try.call68 a w) (by kernel_rfl) (by rw [eq68]; exact h)
-- slices.medianAdjacentCmpFunc[commons/imap.Part[int]]
def S69 (v_data v_a v_swaps v_cmp : Value) (Q : Value → World → Prop) (w : World) : Prop :=
 pur Try.prog (binS .sub 3 false true v_a (.int .i64 1)) fun t11 => 
 pur Try.prog (binS .add 3 false true v_a (.int .i64 1)) fun t14 => 
 callS Try.prog 70 #[v_data, t11, v_a, t14, v_swaps, v_cmp] (fun t17 w_1 => 
 Q t17 w_1) w
theorem eq69 (v_data v_a v_swaps v_cmp : Value) (Q : Value → World → Prop) (w : World) : semF Try.prog 69 [v_data, v_a, v_swaps, v_cmp] Q w = S69 v_data v_a v_swaps v_cmp Q w := by kernel_rfl
theorem ref69 {v_data v_a v_swaps v_cmp : Value} {Q : Value → World → Prop} {w : World} (h : S69 v_data v_a v_swaps v_cmp Q w) : callS Try.prog 69 #[v_data, v_a, v_swaps, v_cmp] Q w :=
  callS_of mix (fun a w => Try.call69 a w) (by kernel_rfl) (by rw [eq69]; exact h)
-- slices.medianCmpFunc[commons/imap.Part[int]]
def S70 (v_data v_a v_b v_c v_swaps v_cmp : Value) (Q : Value → World → Prop) (w : World) : Prop :=
 callS Try.prog 73 #[v_data, v_a, v_b, v_swaps, v_cmp] (fun t19 w_1 => 
 pur Try.prog (Instr.extract t19 0) fun t20 => 
 pur Try.prog (Instr.extract t19 1) fun t21 => 
 callS Try.prog 73 #[v_data, t21, v_c, v_swaps, v_cmp] (fun t28 w_2 => 
 pur Try.prog (Instr.extract t28 0) fun t29 => 
 pur Try.prog (Instr.extract t28 1) fun _ => 
 callS Try.prog 73 #[v_data, t20, t29, v_swaps, v_cmp] (fun t37 w_3 => 
 pur Try.prog (Instr.extract t37 0) fun _ => 
 pur Try.prog (Instr.extract t37 1) fun t39 => 
 Q t39 w_3) w_2) w_1) w
theorem eq70 (v_data v_a v_b v_c v_swaps v_cmp : Value) (Q : Value → World → Prop) (w : World) : semF Try.prog 70 [v_data, v_a, v_b, v_c, v_swaps, v_cmp] Q w = S70 v_data v_a v_b v_c v_swaps v_cmp Q w := by kernel_rfl
theorem ref70 {v_data v_a v_b v_c v_swaps v_cmp : Value} {Q : Value → World → Prop} {w : World} (h : S70 v_data v_a v_b v_c v_swaps v_cmp Q w) : callS Try.prog 70 #[v_data, v_a, v_b, v_c, v_swaps, v_cmp] Q w :=
  callS_of mix (fun a w => Try.call70 a w) (by kernel_rfl) (by rw [eq70]; exact h)
-- slices.IndexFunc[[]commons/api.Span,commons/api.Span]
def S71 (v_s v_f : Value) (Q : Value → World → Prop) (w : World) : Prop :=
 pur Try.prog (Builtin.len_ #[71] 3 #[v_s]) fun t7 => 
 lp 1 (fun J => fun t8 w_1 => ∀ _j : Fr, 
  pur Try.prog (binS .lss 3 false false t8 t7) fun t9 => 
  condS t9
   (pur Try.prog (Instr.indexAt 71 v_s t8) fun t14 => 
  rd Try.prog (Instr.loadAt 25 t14) (fun t15 => 
  callF Try.prog v_f #[t15] (fun t16 w_2 => 
  condS t16
   (Q t8 w_2)
   (pur Try.prog (binS .add 3 false true t8 (.int .i64 1)) fun t18 => 
  J t18 w_2)) w_1) w_1)
   (Q (.int .i64 (-1)) w_1)) [(.int .i64 0)] w
theorem eq71 (v_s v_f : Value) (Q : Value → World → Prop) (w : World) : semF Try.prog 71 [v_s, v_f] Q w = S71 v_s v_f Q w := by kernel_rfl
theorem ref71 {v_s v_f : Value} {Q : Value → World → Prop} {w : World} (h : S71 v_s v_f Q w) : callS Try.prog 71 #[v_s, v_f] Q w :=
  callS_of mix (fun a w => Try.call71 a w) (by kernel_rfl) (by rw [eq71]; exact h)
-- slices.pdqsortCmpFunc[commons/api.Span]
def S72 (v_data v_a v_b v_limit v_cmp : Value) (Q : Value → World → Prop) (w : World) : Prop :=
 lp 5 (fun J => fun v_a_1 v_b_1 v_limit_1 v_wasBalanced v_wasPartitioned w_1 => ∀ _j : Fr, 
  pur Try.prog (binS .sub 3 false false v_b_1 v_a_1) fun t23 => 
  pur Try.prog (binS .leq 3 false true t23 (.int .i64 12)) fun t25 => 
  condS t25
   (callS Try.prog 74 #[v_data, v_a_1, v_b_1, v_cmp] (fun _ w_2 => 
   Q (.tuple #[]) w_2) w_1)
   (pur Try.prog (binS .eql 3 false true v_limit_1 (.int .i64 0)) fun t32 => 
  condS t32
   (callS Try.prog 75 #[v_data, v_a_1, v_b_1, v_cmp] (fun _ w_3 => 
   Q (.tuple #[]) w_3) w_1)
   (jn 1 (fun J_1 => 
   pur Try.prog (Op.unary .not v_wasBalanced) fun t39 => 
   condS t39
    (callS Try.prog 76 #[v_data, v_a_1, v_b_1, v_cmp] (fun _ w_4 => 
    pur Try.prog (binS .sub 3 false true v_limit_1 (.int .i64 1)) fun t46 => 
    J_1 t46 w_4) w_1)
    (J_1 v_limit_1 w_1))
  (fun v_limit_2 w_5 => ∀ _j : Fr, 
   callS Try.prog 77 #[v_data, v_a_1, v_b_1, v_cmp] (fun t52 w_6 => 
   pur Try.prog (Instr.extract t52 0) fun t53 => 
   pur Try.prog (Instr.extract t52 1) fun t54 => 
   jn 2 (fun J_2 => 
    pur Try.prog (binS .eql 80 false true t54 (.int .i64 2)) fun t56 => 
    condS t56
     (callS Try.prog 78 #[v_data, v_a_1, v_b_1, v_cmp] (fun _ w_7 => 
     pur Try.prog (binS .sub 3 false true v_b_1 (.int .i64 1)) fun t63 => 
     pur Try.prog (binS .sub 3 false false t53 v_a_1) fun t66 => 
     pur Try.prog (binS .sub 3 false false t63 t66) fun t67 => 
     J_2 t67 (.int .i64 1) w_7) w_6)
     (J_2 t53 t54 w_6))
   (fun v_pivot v_hint w_8 => ∀ _j : Fr, 
    jn 0 (fun J_3 => 
     gd v_wasBalanced true (fun k w_9 => k v_wasPartitioned w_9) (fun t70_1 w_10 => 
     pur Try.prog (pickS v_wasBalanced t70_1 (.bool false)) fun t71 => 
     gd t71 true (fun k_1 w_11 => k_1 v_hint w_11) (fun t73_1 w_12 => 
     gd t71 true (fun k_2 w_13 => pur Try.prog (binS .eql 80 false true t73_1 (.int .i64 1)) fun t74 => k_2 t74 w_13) (fun t74_1 w_14 => 
     pur Try.prog (pickS t71 t74_1 (.bool false)) fun t75 => 
     condS t75
      (callS Try.prog 79 #[v_data, v_a_1, v_b_1, v_cmp] (fun t80 w_15 => 
      condS t80
       (Q (.tuple #[]) w_15)
       (J_3  w_15)) w_14)
      (J_3  w_14)) w_12) w_10) w_8)
    (fun  w_16 => ∀ _j : Fr, 
     pur Try.prog (binS .gtr 3 false true v_a_1 (.int .i64 0)) fun t82 => 
     gd t82 true (fun k_3 w_17 => k_3 v_cmp w_17) (fun t84_1 w_18 => 
     gd t82 true (fun k_4 w_19 => k_4 v_data w_19) (fun t85_1 w_20 => 
     gd t82 true (fun k_5 w_21 => k_5 v_a_1 w_21) (fun t86_1 w_22 => 
     gd t82 true (fun k_6 w_23 => pur Try.prog (binS .sub 3 false true t86_1 (.int .i64 1)) fun t87 => k_6 t87 w_23) (fun t87_1 w_24 => 
     gd t82 true (fun k_7 w_25 => pur Try.prog (Instr.indexAt 71 t85_1 t87_1) fun t88 => k_7 t88 w_25) (fun t88_1 w_26 => 
     gd t82 true (fun k_8 w_27 => rd Try.prog (Instr.loadAt 25 t88_1) (fun t89 => k_8 t89 w_27) w_27) (fun t89_1 w_28 => 
     gd t82 true (fun k_9 w_29 => k_9 v_data w_29) (fun t90_1 w_30 => 
     gd t82 true (fun k_10 w_31 => k_10 v_pivot w_31) (fun t91_1 w_32 => 
     gd t82 true (fun k_11 w_33 => pur Try.prog (Instr.indexAt 71 t90_1 t91_1) fun t92 => k_11 t92 w_33) (fun t92_1 w_34 => 
     gd t82 true (fun k_12 w_35 => rd Try.prog (Instr.loadAt 25 t92_1) (fun t93 => k_12 t93 w_35) w_35) (fun t93_1 w_36 => 
     gd t82 true (fun k_13 w_37 => callF Try.prog t84_1 #[t89_1, t93_1] (fun t94 w_38 => k_13 t94 w_38) w_37) (fun t94_1 w_39 => 
     gd t82 true (fun k_14 w_40 => pur Try.prog (binS .lss 3 false true t94_1 (.int .i64 0)) fun t95 => k_14 t95 w_40) (fun t95_1 w_41 => 
     gd t82 true (fun k_15 w_42 => pur Try.prog (Op.unary .not t95_1) fun t96 => k_15 t96 w_42) (fun t96_1 w_43 => 
     pur Try.prog (pickS t82 t96_1 (.bool false)) fun t97 => 
     condS t97
      (callS Try.prog 80 #[v_data, v_a_1, v_b_1, v_pivot, v_cmp] (fun t103 w_44 => 
      J t103 v_b_1 v_limit_2 v_wasBalanced v_wasPartitioned w_44) w_43)
      (callS Try.prog 81 #[v_data, v_a_1, v_b_1, v_pivot, v_cmp] (fun t111 w_45 => 
     pur Try.prog (Instr.extract t111 0) fun t112 => 
     pur Try.prog (Instr.extract t111 1) fun t113 => 
     pur Try.prog (binS .sub 3 false false t112 v_a_1) fun t117 => 
     pur Try.prog (binS .sub 3 false false v_b_1 t112) fun t120 => 
     pur Try.prog (binS .quo 3 false true t23 (.int .i64 8)) fun t122 => 
     pur Try.prog (binS .lss 3 false false t117 t120) fun t125 => 
     condS t125
      (pur Try.prog (binS .geq 3 false false t117 t122) fun t128 => 
      callS Try.prog 72 #[v_data, v_a_1, t112, v_limit_2, v_cmp] (fun _ w_46 => 
      pur Try.prog (binS .add 3 false true t112 (.int .i64 1)) fun t136 => 
      J t136 v_b_1 v_limit_2 t128 t113 w_46) w_45)
      (pur Try.prog (binS .geq 3 false false t120 t122) fun t139 => 
      pur Try.prog (binS .add 3 false true t112 (.int .i64 1)) fun t142 => 
      callS Try.prog 72 #[v_data, t142, v_b_1, v_limit_2, v_cmp] (fun _ w_47 => 
      J v_a_1 t112 v_limit_2 t139 t113 w_47) w_45)) w_43)) w_41) w_39) w_36) w_34) w_32) w_30) w_28) w_26) w_24) w_22) w_20) w_18) (World.drew w_16)))) w_5)))) [v_a, v_b, v_limit, (.bool true), (.bool true)] w
theorem eq72 (v_data v_a v_b v_limit v_cmp : Value) (Q : Value → World → Prop) (w : World) : semF Try.prog 72 [v_data, v_a, v_b, v_limit, v_cmp] Q w = S72 v_data v_a v_b v_limit v_cmp Q w := by kernel_rfl
theorem ref72 {v_data v_a v_b v_limit v_cmp : Value} {Q : Value → World → Prop} {w : World} (h : S72 v_data v_a v_b v_limit v_cmp Q w) : callS Try.prog 72 #[v_data, v_a, v_b, v_limit, v_cmp] Q w :=
  callS_of mix (fun a w => Try.call72 a w) (by kernel_rfl) (by rw [eq72]; exact h)
-- slices.order2CmpFunc[commons/imap.Part[int]]
def S73 (v_data v_a v_b v_swaps v_cmp : Value) (Q : Value → World → Prop) (w : World) : Prop :=
 pur Try.prog (Instr.indexAt 57 v_data v_b) fun t15 => 
 rd Try.prog (Instr.loadAt 60 t15) (fun t16 => 
 pur Try.prog (Instr.indexAt 57 v_data v_a) fun t19 => 
 rd Try.prog (Instr.loadAt 60 t19) (fun t20 => 
 callF Try.prog v_cmp #[t16, t20] (fun t21 w_1 => 
 pur Try.prog (binS .lss 3 false true t21 (.int .i64 0)) fun t22 => 
 condS t22
  (pur Try.prog (nilV v_swaps) fun t24 => 
  rd Try.prog (Instr.loadAt 3 t24) (fun t25 => 
  pur Try.prog (binS .add 3 false true t25 (.int .i64 1)) fun t26 => 
  pur Try.prog (nilV v_swaps) fun t27 => 
  act Try.prog (thenU (Instr.storeAt 3 t27 t26)) (fun _ w_2 => 
  Q (.tuple #[v_b, v_a]) w_2) w_1) w_1)
  (Q (.tuple #[v_a, v_b]) w_1)) (World.drew w)) (World.drew w)) (World.drew w)
theorem eq73 (v_data v_a v_b v_swaps v_cmp : Value) (Q : Value → World → Prop) (w : World) : semF Try.prog 73 [v_data, v_a, v_b, v_swaps, v_cmp] Q w = S73 v_data v_a v_b v_swaps v_cmp Q w := by kernel_rfl
theorem ref73 {v_data v_a v_b v_swaps v_cmp : Value} {Q : Value → World → Prop} {w : World} (h : S73 v_data v_a v_b v_swaps v_cmp Q w) : callS Try.prog 73 #[v_data, v_a, v_b, v_swaps, v_cmp] Q w :=
  callS_of mix (fun a w => Try.call73 a w) (by kernel_rfl) (by rw [eq73]; exact h)
-- slices.insertionSortCmpFunc[commons/api.Span]
def S74 (v_data v_a v_b v_cmp : Value) (Q : Value → World → Prop) (w : World) : Prop :=
 pur Try.prog (binS .add 3 false true v_a (.int .i64 1)) fun t11 => 
 lp 1 (fun J => fun v_i w_1 => ∀ _j : Fr, 
  pur Try.prog (binS .lss 3 false false v_i v_b) fun t14 => 
  condS t14
   (lp 1 (fun J_1 => fun v_j w_2 => ∀ _j : Fr, 
   pur Try.prog (binS .gtr 3 false false v_j v_a) fun t20 => 
   gd t20 true (fun k w_3 => k v_cmp w_3) (fun t22_1 w_4 => 
   gd t20 true (fun k_1 w_5 => k_1 v_data w_5) (fun t23_1 w_6 => 
   gd t20 true (fun k_2 w_7 => k_2 v_j w_7) (fun t24_1 w_8 => 
   gd t20 true (fun k_3 w_9 => pur Try.prog (Instr.indexAt 71 t23_1 t24_1) fun t25 => k_3 t25 w_9) (fun t25_1 w_10 => 
   gd t20 true (fun k_4 w_11 => rd Try.prog (Instr.loadAt 25 t25_1) (fun t26 => k_4 t26 w_11) w_11) (fun t26_1 w_12 => 
   gd t20 true (fun k_5 w_13 => k_5 v_data w_13) (fun t27_1 w_14 => 
   gd t20 true (fun k_6 w_15 => k_6 v_j w_15) (fun t28_1 w_16 => 
   gd t20 true (fun k_7 w_17 => pur Try.prog (binS .sub 3 false true t28_1 (.int .i64 1)) fun t29 => k_7 t29 w_17) (fun t29_1 w_18 => 
   gd t20 true (fun k_8 w_19 => pur Try.prog (Instr.indexAt 71 t27_1 t29_1) fun t30 => k_8 t30 w_19) (fun t30_1 w_20 => 
   gd t20 true (fun k_9 w_21 => rd Try.prog (Instr.loadAt 25 t30_1) (fun t31 => k_9 t31 w_21) w_21) (fun t31_1 w_22 => 
   gd t20 true (fun k_10 w_23 => callF Try.prog t22_1 #[t26_1, t31_1] (fun t32 w_24 => k_10 t32 w_24) w_23) (fun t32_1 w_25 => 
   gd t20 true (fun k_11 w_26 => pur Try.prog (binS .lss 3 false true t32_1 (.int .i64 0)) fun t33 => k_11 t33 w_26) (fun t33_1 w_27 => 
   pur Try.prog (pickS t20 t33_1 (.bool false)) fun t34 => 
   condS t34
    (pur Try.prog (binS .sub 3 false true v_j (.int .i64 1)) fun t41 => 
   pur Try.prog (binS .sub 3 false true v_j (.int .i64 1)) fun t44 => 
   pur Try.prog (Instr.indexAt 71 v_data t44) fun t45 => 
   rd Try.prog (Instr.loadAt 25 t45) (fun t46 => 
   pur Try.prog (Instr.indexAt 71 v_data v_j) fun t49 => 
   rd Try.prog (Instr.loadAt 25 t49) (fun t50 => 
   pur Try.prog (Instr.indexAt 71 v_data v_j) fun t51 => 
   act Try.prog (thenU (Instr.storeAt 25 t51 t46)) (fun _ w_28 => 
   pur Try.prog (Instr.indexAt 71 v_data t41) fun t52 => 
   act Try.prog (thenU (Instr.storeAt 25 t52 t50)) (fun _ w_29 => 
   pur Try.prog (binS .sub 3 false true v_j (.int .i64 1)) fun t36 => 
   J_1 t36 w_29) w_28) (World.drew w_27)) (World.drew w_27)) (World.drew w_27))
    (pur Try.prog (binS .add 3 false true v_i (.int .i64 1)) fun t16 => 
  J t16 w_27)) w_25) w_22) w_20) w_18) w_16) w_14) w_12) w_10) w_8) w_6) w_4) (World.drew w_2)) [v_i] w_1)
   (Q (.tuple #[]) w_1)) [t11] w
theorem eq74 (v_data v_a v_b v_cmp : Value) (Q : Value → World → Prop) (w : World) : semF Try.prog 74 [v_data, v_a, v_b, v_cmp] Q w = S74 v_data v_a v_b v_cmp Q w := by kernel_rfl
theorem ref74 {v_data v_a v_b v_cmp : Value} {Q : Value → World → Prop} {w : World} (h : S74 v_data v_a v_b v_cmp Q w) : callS Try.prog 74 #[v_data, v_a, v_b, v_cmp] Q w :=
  callS_of mix (fun a w => Try.call74 a w) (by kernel_rfl) (by rw [eq74]; exact h)
-- slices.heapSortCmpFunc[commons/api.Span]
def S75 (v_data v_a v_b v_cmp : Value) (Q : Value → World → Prop) (w : World) : Prop :=
 pur Try.prog (binS .sub 3 false false v_b v_a) fun t16 => 
 pur Try.prog (binS .sub 3 false true t16 (.int .i64 1)) fun t18 => 
 pur Try.prog (binS .quo 3 false true t18 (.int .i64 2)) fun t19 => 
 lp 1 (fun J => fun v_i w_1 => ∀ _j : Fr, 
  pur Try.prog (binS .geq 3 false true v_i (.int .i64 0)) fun t21 => 
  condS t21
   (callS Try.prog 82 #[v_data, v_i, t16, v_a, v_cmp] (fun _ w_2 => 
  pur Try.prog (binS .sub 3 false true v_i (.int .i64 1)) fun t23 => 
  J t23 w_2) w_1)
   (pur Try.prog (binS .sub 3 false true t16 (.int .i64 1)) fun t31 => 
 lp 1 (fun J_1 => fun v_i_1 w_3 => ∀ _j : Fr, 
  pur Try.prog (binS .geq 3 false true v_i_1 (.int .i64 0)) fun t33 => 
  condS t33
   (pur Try.prog (binS .add 3 false false v_a v_i_1) fun t41 => 
  pur Try.prog (binS .add 3 false false v_a v_i_1) fun t45 => 
  pur Try.prog (Instr.indexAt 71 v_data t45) fun t46 => 
  rd Try.prog (Instr.loadAt 25 t46) (fun t47 => 
  pur Try.prog (Instr.indexAt 71 v_data v_a) fun t50 => 
  rd Try.prog (Instr.loadAt 25 t50) (fun t51 => 
  pur Try.prog (Instr.indexAt 71 v_data v_a) fun t52 => 
  act Try.prog (thenU (Instr.storeAt 25 t52 t47)) (fun _ w_4 => 
  pur Try.prog (Instr.indexAt 71 v_data t41) fun t53 => 
  act Try.prog (thenU (Instr.storeAt 25 t53 t51)) (fun _ w_5 => 
  callS Try.prog 82 #[v_data, (.int .i64 0), v_i_1, v_a, v_cmp] (fun _ w_6 => 
  pur Try.prog (binS .sub 3 false true v_i_1 (.int .i64 1)) fun t35 => 
  J_1 t35 w_6) w_5) w_4) (World.drew w_3)) (World.drew w_3)) (World.drew w_3))
   (Q (.tuple #[]) w_3)) [t31] w_1)) [t19] w
theorem eq75 (v_data v_a v_b v_cmp : Value) (Q : Value → World → Prop) (w : World) : semF Try.prog 75 [v_data, v_a, v_b, v_cmp] Q w = S75 v_data v_a v_b v_cmp Q w := by kernel_rfl
theorem ref75 {v_data v_a v_b v_cmp : Value} {Q : Value → World → Prop} {w : World} (h : S75 v_data v_a v_b v_cmp Q w) : callS Try.prog 75 #[v_data, v_a, v_b, v_cmp] Q w :=
  callS_of mix (fun a w => Try.call75 a w) (by kernel_rfl) (by rw [eq75]; exact h)
-- slices.breakPatternsCmpFunc[commons/api.Span]
def S76 (v_data v_a v_b _ : Value) (Q : Value → World → Prop) (w : World) : Prop :=
 pur Try.prog (binS .sub 3 false false v_b v_a) fun t15 => 
 pur Try.prog (binS .geq 3 false true t15 (.int .i64 8)) fun t17 => 
 condS t17
  (pur Try.prog (convert 3 95 t15) fun t19 => 
  act Try.prog (Instr.alloc 95 true (.tuple #[])) (fun t9 w_1 => 
  act Try.prog (thenU (Instr.storeAt 95 t9 t19)) (fun _ w_2 => 
  callS Try.prog 67 #[t15] (fun t21 w_3 => 
  pur Try.prog (binS .quo 3 false true t15 (.int .i64 4)) fun t24 => 
  pur Try.prog (binS .mul 3 false true t24 (.int .i64 2)) fun t25 => 
  pur Try.prog (binS .add 3 false false v_a t25) fun t26 => 
  pur Try.prog (binS .sub 3 false true t26 (.int .i64 1)) fun t27 => 
  lp 1 (fun J => fun v_idx w_4 => ∀ _j : Fr, 
   pur Try.prog (binS .quo 3 false true t15 (.int .i64 4)) fun t31 => 
   pur Try.prog (binS .mul 3 false true t31 (.int .i64 2)) fun t32 => 
   pur Try.prog (binS .add 3 false false v_a t32) fun t33 => 
   pur Try.prog (binS .add 3 false true t33 (.int .i64 1)) fun t34 => 
   pur Try.prog (binS .leq 3 false false v_idx t34) fun t35 => 
   condS t35
    (callS Try.prog 68 #[t9] (fun t38 w_5 => 
   pur Try.prog (binS .sub 76 false true t21 (.int .u64 1)) fun t40 => 
   pur Try.prog (binS .and 76 false false t38 t40) fun t41 => 
   pur Try.prog (convert 76 3 t41) fun t42 => 
   jn 1 (fun J_1 => 
    pur Try.prog (binS .geq 3 false false t42 t15) fun t45 => 
    condS t45
     (pur Try.prog (binS .sub 3 false false t42 t15) fun t48 => 
     J_1 t48 w_5)
     (J_1 t42 w_5))
   (fun v_other w_6 => ∀ _j : Fr, 
    pur Try.prog (binS .add 3 false false v_a v_other) fun t54 => 
    pur Try.prog (binS .add 3 false false v_a v_other) fun t58 => 
    pur Try.prog (Instr.indexAt 71 v_data t58) fun t59 => 
    rd Try.prog (Instr.loadAt 25 t59) (fun t60 => 
    pur Try.prog (Instr.indexAt 71 v_data v_idx) fun t63 => 
    rd Try.prog (Instr.loadAt 25 t63) (fun t64 => 
    pur Try.prog (Instr.indexAt 71 v_data v_idx) fun t65 => 
    act Try.prog (thenU (Instr.storeAt 25 t65 t60)) (fun _ w_7 => 
    pur Try.prog (Instr.indexAt 71 v_data t54) fun t66 => 
    act Try.prog (thenU (Instr.storeAt 25 t66 t64)) (fun _ w_8 => 
    pur Try.prog (binS .add 3 false true v_idx (.int .i64 1)) fun t37 => 
   J t37 w_8) w_7) (World.drew w_6)) (World.drew w_6)) (World.drew w_6))) w_4)
    (Q (.tuple #[]) w_4)) [t27] w_3) w_2) w_1) w)
  (Q (.tuple #[]) w)
theorem eq76 (v_data v_a v_b v_cmp : Value) (Q : Value → World → Prop) (w : World) : semF Try.prog 76 [v_data, v_a, v_b, v_cmp] Q w = S76 v_data v_a v_b v_cmp Q w := by kernel_rfl
theorem ref76 {v_data v_a v_b v_cmp : Value} {Q : Value → World → Prop} {w : World} (h : S76 v_data v_a v_b v_cmp Q w) : callS Try.prog 76 #[v_data, v_a, v_b, v_cmp] Q w :=
  callS_of mix (fun a w => Try.call76 a w) (by kernel_rfl) (by rw [eq76]; exact h)
-- slices.choosePivotCmpFunc[commons/api.Span]
def S77 (v_data v_a v_b v_cmp : Value) (Q : Value → World → Prop) (w : World) : Prop :=
 pur Try.prog (binS .sub 3 false false v_b v_a) fun t17 => 
 act Try.prog (Instr.alloc 3 true (.tuple #[])) (fun t11 w_1 => 
 pur Try.prog (binS .quo 3 false true t17 (.int .i64 4)) fun t20 => 
 pur Try.prog (binS .mul 3 false true t20 (.int .i64 1)) fun t21 => 
 pur Try.prog (binS .add 3 false false v_a t21) fun t22 => 
 pur Try.prog (binS .quo 3 false true t17 (.int .i64 4)) fun t25 => 
 pur Try.prog (binS .mul 3 false true t25 (.int .i64 2)) fun t26 => 
 pur Try.prog (binS .add 3 false false v_a t26) fun t27 => 
 pur Try.prog (binS .quo 3 false true t17 (.int .i64 4)) fun t30 => 
 pur Try.prog (binS .mul 3 false true t30 (.int .i64 3)) fun t31 => 
 pur Try.prog (binS .add 3 false false v_a t31) fun t32 => 
 jn 1 (fun J => 
  pur Try.prog (binS .geq 3 false true t17 (.int .i64 8)) fun t34 => 
  condS t34
   (jn 3 (fun J_1 => 
    pur Try.prog (binS .geq 3 false true t17 (.int .i64 50)) fun t36 => 
    condS t36
     (callS Try.prog 83 #[v_data, t22, t11, v_cmp] (fun t40 w_2 => 
     callS Try.prog 83 #[v_data, t27, t11, v_cmp] (fun t44 w_3 => 
     callS Try.prog 83 #[v_data, t32, t11, v_cmp] (fun t48 w_4 => 
     J_1 t40 t44 t48 w_4) w_3) w_2) w_1)
     (J_1 t22 t27 t32 w_1))
   (fun v_i v_j v_k w_5 => ∀ _j : Fr, 
    callS Try.prog 84 #[v_data, v_i, v_j, v_k, t11, v_cmp] (fun t54 w_6 => 
    J t54 w_6) w_5))
   (J t27 w_1))
 (fun v_j_1 w_7 => ∀ _j : Fr, 
  rd Try.prog (Instr.loadAt 3 t11) (fun t55 => 
  pur Try.prog (binS .eql 3 false true t55 (.int .i64 0)) fun t58 => 
  condS t58
   (Q (.tuple #[v_j_1, (.int .i64 1)]) w_7)
   (pur Try.prog (binS .eql 3 false true t55 (.int .i64 12)) fun t61 => 
   condS t61
    (Q (.tuple #[v_j_1, (.int .i64 2)]) w_7)
    (Q (.tuple #[v_j_1, (.int .i64 0)]) w_7))) w_7)) w
theorem eq77 (v_data v_a v_b v_cmp : Value) (Q : Value → World → Prop) (w : World) : semF Try.prog 77 [v_data, v_a, v_b, v_cmp] Q w = S77 v_data v_a v_b v_cmp Q w := by kernel_rfl
theorem ref77 {v_data v_a v_b v_cmp : Value} {Q : Value → World → Prop} {w : World} (h : S77 v_data v_a v_b v_cmp Q w) : callS Try.prog 77 #[v_data, v_a, v_b, v_cmp] Q w :=
  callS_of mix (fun a w => Try.call77 a w) (by kernel_rfl) (by rw [eq77]; exact h)
-- slices.reverseRangeCmpFunc[commons/api.Span]
def S78 (v_data v_a v_b _ : Value) (Q : Value → World → Prop) (w : World) : Prop :=
 pur Try.prog (binS .sub 3 false true v_b (.int .i64 1)) fun t12 => 
 lp 2 (fun J => fun v_i v_j w_1 => ∀ _j : Fr, 
  pur Try.prog (binS .lss 3 false false v_i v_j) fun t15 => 
  condS t15
   (pur Try.prog (Instr.indexAt 71 v_data v_j) fun t22 => 
  rd Try.prog (Instr.loadAt 25 t22) (fun t23 => 
  pur Try.prog (Instr.indexAt 71 v_data v_i) fun t26 => 
  rd Try.prog (Instr.loadAt 25 t26) (fun t27 => 
  pur Try.prog (Instr.indexAt 71 v_data v_i) fun t28 => 
  act Try.prog (thenU (Instr.storeAt 25 t28 t23)) (fun _ w_2 => 
  pur Try.prog (Instr.indexAt 71 v_data v_j) fun t29 => 
  act Try.prog (thenU (Instr.storeAt 25 t29 t27)) (fun _ w_3 => 
  pur Try.prog (binS .add 3 false true v_i (.int .i64 1)) fun t31 => 
  pur Try.prog (binS .sub 3 false true v_j (.int .i64 1)) fun t33 => 
  J t31 t33 w_3) w_2) (World.drew w_1)) (World.drew w_1)) (World.drew w_1))
   (Q (.tuple #[]) w_1)) [v_a, t12] w
theorem eq78 (v_data v_a v_b v_cmp : Value) (Q : Value → World → Prop) (w : World) : semF Try.prog 78 [v_data, v_a, v_b, v_cmp] Q w = S78 v_data v_a v_b v_cmp Q w := by kernel_rfl
theorem ref78 {v_data v_a v_b v_cmp : Value} {Q : Value → World → Prop} {w : World} (h : S78 v_data v_a v_b v_cmp Q w) : callS Try.prog 78 #[v_data, v_a, v_b, v_cmp] Q w :=
  callS_of mix (fun a w => Try.call78 a w) (by kernel_rfl) (by rw [eq78]; exact h)
-- slices.partialInsertionSortCmpFunc[commons/api.Span]
def S79 (v_data v_a v_b v_cmp : Value) (Q : Value → World → Prop) (w : World) : Prop :=
 pur Try.prog (binS .add 3 false true v_a (.int .i64 1)) fun t14 => 
 lp 2 (fun J => fun v_i v_j w_1 => ∀ _j : Fr, 
  pur Try.prog (binS .lss 3 false true v_j (.int .i64 5)) fun t16 => 
  condS t16
   (jn 1 (fun J_1 => 
   lp 1 (fun J_2 => fun v_i_1 w_2 => ∀ _j : Fr, 
    pur Try.prog (binS .lss 3 false false v_i_1 v_b) fun t21 => 
    gd t21 true (fun k w_3 => k v_cmp w_3) (fun t23_1 w_4 => 
    gd t21 true (fun k_1 w_5 => k_1 v_data w_5) (fun t24_1 w_6 => 
    gd t21 true (fun k_2 w_7 => k_2 v_i_1 w_7) (fun t25_1 w_8 => 
    gd t21 true (fun k_3 w_9 => pur Try.prog (Instr.indexAt 71 t24_1 t25_1) fun t26 => k_3 t26 w_9) (fun t26_1 w_10 => 
    gd t21 true (fun k_4 w_11 => rd Try.prog (Instr.loadAt 25 t26_1) (fun t27 => k_4 t27 w_11) w_11) (fun t27_1 w_12 => 
    gd t21 true (fun k_5 w_13 => k_5 v_data w_13) (fun t28_1 w_14 => 
    gd t21 true (fun k_6 w_15 => k_6 v_i_1 w_15) (fun t29_1 w_16 => 
    gd t21 true (fun k_7 w_17 => pur Try.prog (binS .sub 3 false true t29_1 (.int .i64 1)) fun t30 => k_7 t30 w_17) (fun t30_1 w_18 => 
    gd t21 true (fun k_8 w_19 => pur Try.prog (Instr.indexAt 71 t28_1 t30_1) fun t31 => k_8 t31 w_19) (fun t31_1 w_20 => 
    gd t21 true (fun k_9 w_21 => rd Try.prog (Instr.loadAt 25 t31_1) (fun t32 => k_9 t32 w_21) w_21) (fun t32_1 w_22 => 
    gd t21 true (fun k_10 w_23 => callF Try.prog t23_1 #[t27_1, t32_1] (fun t33 w_24 => k_10 t33 w_24) w_23) (fun t33_1 w_25 => 
    gd t21 true (fun k_11 w_26 => pur Try.prog (binS .lss 3 false true t33_1 (.int .i64 0)) fun t34 => k_11 t34 w_26) (fun t34_1 w_27 => 
    gd t21 true (fun k_12 w_28 => pur Try.prog (Op.unary .not t34_1) fun t35 => k_12 t35 w_28) (fun t35_1 w_29 => 
    pur Try.prog (pickS t21 t35_1 (.bool false)) fun t36 => 
    condS t36
     (pur Try.prog (binS .add 3 false true v_i_1 (.int .i64 1)) fun t38 => 
    J_2 t38 w_29)
     (pur Try.prog (binS .eql 3 false false v_i_1 v_b) fun t41 => 
   condS t41
    (Q (.bool true) w_29)
    (pur Try.prog (binS .sub 3 false false v_b v_a) fun t44 => 
   pur Try.prog (binS .lss 3 false true t44 (.int .i64 50)) fun t45 => 
   condS t45
    (Q (.bool false) w_29)
    (pur Try.prog (binS .sub 3 false true v_i_1 (.int .i64 1)) fun t50 => 
   pur Try.prog (binS .sub 3 false true v_i_1 (.int .i64 1)) fun t53 => 
   pur Try.prog (Instr.indexAt 71 v_data t53) fun t54 => 
   rd Try.prog (Instr.loadAt 25 t54) (fun t55 => 
   pur Try.prog (Instr.indexAt 71 v_data v_i_1) fun t58 => 
   rd Try.prog (Instr.loadAt 25 t58) (fun t59 => 
   pur Try.prog (Instr.indexAt 71 v_data v_i_1) fun t60 => 
   act Try.prog (thenU (Instr.storeAt 25 t60 t55)) (fun _ w_30 => 
   pur Try.prog (Instr.indexAt 71 v_data t50) fun t61 => 
   act Try.prog (thenU (Instr.storeAt 25 t61 t59)) (fun _ w_31 => 
   jn 0 (fun J_3 => 
    pur Try.prog (binS .sub 3 false false v_i_1 v_a) fun t64 => 
    pur Try.prog (binS .geq 3 false true t64 (.int .i64 2)) fun t65 => 
    condS t65
     (pur Try.prog (binS .sub 3 false true v_i_1 (.int .i64 1)) fun t67 => 
     lp 1 (fun J_4 => fun v_j_1 w_32 => ∀ _j : Fr, 
      pur Try.prog (binS .geq 3 false true v_j_1 (.int .i64 1)) fun t69 => 
      condS t69
       (pur Try.prog (Instr.indexAt 71 v_data v_j_1) fun t75 => 
      rd Try.prog (Instr.loadAt 25 t75) (fun t76 => 
      pur Try.prog (binS .sub 3 false true v_j_1 (.int .i64 1)) fun t79 => 
      pur Try.prog (Instr.indexAt 71 v_data t79) fun t80 => 
      rd Try.prog (Instr.loadAt 25 t80) (fun t81 => 
      callF Try.prog v_cmp #[t76, t81] (fun t82 w_33 => 
      pur Try.prog (binS .lss 3 false true t82 (.int .i64 0)) fun t83 => 
      pur Try.prog (Op.unary .not t83) fun t84 => 
      condS t84
       (J_3  w_33)
       (pur Try.prog (binS .sub 3 false true v_j_1 (.int .i64 1)) fun t89 => 
      pur Try.prog (binS .sub 3 false true v_j_1 (.int .i64 1)) fun t92 => 
      pur Try.prog (Instr.indexAt 71 v_data t92) fun t93 => 
      rd Try.prog (Instr.loadAt 25 t93) (fun t94 => 
      pur Try.prog (Instr.indexAt 71 v_data v_j_1) fun t97 => 
      rd Try.prog (Instr.loadAt 25 t97) (fun t98 => 
      pur Try.prog (Instr.indexAt 71 v_data v_j_1) fun t99 => 
      act Try.prog (thenU (Instr.storeAt 25 t99 t94)) (fun _ w_34 => 
      pur Try.prog (Instr.indexAt 71 v_data t89) fun t100 => 
      act Try.prog (thenU (Instr.storeAt 25 t100 t98)) (fun _ w_35 => 
      pur Try.prog (binS .sub 3 false true v_j_1 (.int .i64 1)) fun t71 => 
      J_4 t71 w_35) w_34) (World.drew w_33)) (World.drew w_33)) (World.drew w_33))) (World.drew w_32)) (World.drew w_32)) (World.drew w_32))
       (J_3  w_32)) [t67] w_31)
     (J_3  w_31))
   (fun  w_36 => ∀ _j : Fr, 
    pur Try.prog (binS .sub 3 false false v_b v_i_1) fun t103 => 
    pur Try.prog (binS .geq 3 false true t103 (.int .i64 2)) fun t104 => 
    condS t104
     (pur Try.prog (binS .add 3 false true v_i_1 (.int .i64 1)) fun t106 => 
     lp 1 (fun J_5 => fun v_j_2 w_37 => ∀ _j : Fr, 
      pur Try.prog (binS .lss 3 false false v_j_2 v_b) fun t109 => 
      condS t109
       (pur Try.prog (Instr.indexAt 71 v_data v_j_2) fun t115 => 
      rd Try.prog (Instr.loadAt 25 t115) (fun t116 => 
      pur Try.prog (binS .sub 3 false true v_j_2 (.int .i64 1)) fun t119 => 
      pur Try.prog (Instr.indexAt 71 v_data t119) fun t120 => 
      rd Try.prog (Instr.loadAt 25 t120) (fun t121 => 
      callF Try.prog v_cmp #[t116, t121] (fun t122 w_38 => 
      pur Try.prog (binS .lss 3 false true t122 (.int .i64 0)) fun t123 => 
      pur Try.prog (Op.unary .not t123) fun t124 => 
      condS t124
       (J_1 v_i_1 w_38)
       (pur Try.prog (binS .sub 3 false true v_j_2 (.int .i64 1)) fun t129 => 
      pur Try.prog (binS .sub 3 false true v_j_2 (.int .i64 1)) fun t132 => 
      pur Try.prog (Instr.indexAt 71 v_data t132) fun t133 => 
      rd Try.prog (Instr.loadAt 25 t133) (fun t134 => 
      pur Try.prog (Instr.indexAt 71 v_data v_j_2) fun t137 => 
      rd Try.prog (Instr.loadAt 25 t137) (fun t138 => 
      pur Try.prog (Instr.indexAt 71 v_data v_j_2) fun t139 => 
      act Try.prog (thenU (Instr.storeAt 25 t139 t134)) (fun _ w_39 => 
      pur Try.prog (Instr.indexAt 71 v_data t129) fun t140 => 
      act Try.prog (thenU (Instr.storeAt 25 t140 t138)) (fun _ w_40 => 
      pur Try.prog (binS .add 3 false true v_j_2 (.int .i64 1)) fun t111 => 
      J_5 t111 w_40) w_39) (World.drew w_38)) (World.drew w_38)) (World.drew w_38))) (World.drew w_37)) (World.drew w_37)) (World.drew w_37))
       (J_1 v_i_1 w_37)) [t106] w_36)
     (J_1 v_i_1 w_36))) w_30) (World.drew w_29)) (World.drew w_29)) (World.drew w_29))))) w_27) w_25) w_22) w_20) w_18) w_16) w_14) w_12) w_10) w_8) w_6) w_4) (World.drew w_2)) [v_i] w_1)
  (fun v_i_2 w_41 => ∀ _j : Fr, 
   pur Try.prog (binS .add 3 false true v_j (.int .i64 1)) fun t18 => 
   J v_i_2 t18 w_41))
   (Q (.bool false) w_1)) [t14, (.int .i64 0)] w
theorem eq79 (v_data v_a v_b v_cmp : Value) (Q : Value → World → Prop) (w : World) : semF Try.prog 79 [v_data, v_a, v_b, v_cmp] Q w = S79 v_data v_a v_b v_cmp Q w := by kernel_rfl
theorem ref79 {v_data v_a v_b v_cmp : Value} {Q : Value → World → Prop} {w : World} (h : S79 v_data v_a v_b v_cmp Q w) : callS Try.prog 79 #[v_data, v_a, v_b, v_cmp] Q w :=
  callS_of mix (fun a w => Try.call79 a w) (by kernel_rfl) (by rw [eq79]; exact h)
-- slices.partitionEqualCmpFunc[commons/api.Span]
def S80 (v_data v_a v_b v_pivot v_cmp : Value) (Q : Value → World → Prop) (w : World) : Prop :=
 pur Try.prog (Instr.indexAt 71 v_data v_pivot) fun t19 => 
 rd Try.prog (Instr.loadAt 25 t19) (fun t20 => 
 pur Try.prog (Instr.indexAt 71 v_data v_a) fun t23 => 
 rd Try.prog (Instr.loadAt 25 t23) (fun t24 => 
 pur Try.prog (Instr.indexAt 71 v_data v_a) fun t25 => 
 act Try.prog (thenU (Instr.storeAt 25 t25 t20)) (fun _ w_1 => 
 pur Try.prog (Instr.indexAt 71 v_data v_pivot) fun t26 => 
 act Try.prog (thenU (Instr.storeAt 25 t26 t24)) (fun _ w_2 => 
 pur Try.prog (binS .add 3 false true v_a (.int .i64 1)) fun t28 => 
 pur Try.prog (binS .sub 3 false true v_b (.int .i64 1)) fun t30 => 
 lp 2 (fun J => fun v_i v_j w_3 => ∀ _j : Fr, 
  lp 1 (fun J_1 => fun v_i_1 w_4 => ∀ _j : Fr, 
   pur Try.prog (binS .leq 3 false false v_i_1 v_j) fun t33 => 
   gd t33 true (fun k w_5 => k v_cmp w_5) (fun t35_1 w_6 => 
   gd t33 true (fun k_1 w_7 => k_1 v_data w_7) (fun t36_1 w_8 => 
   gd t33 true (fun k_2 w_9 => k_2 v_a w_9) (fun t37_1 w_10 => 
   gd t33 true (fun k_3 w_11 => pur Try.prog (Instr.indexAt 71 t36_1 t37_1) fun t38 => k_3 t38 w_11) (fun t38_1 w_12 => 
   gd t33 true (fun k_4 w_13 => rd Try.prog (Instr.loadAt 25 t38_1) (fun t39 => k_4 t39 w_13) w_13) (fun t39_1 w_14 => 
   gd t33 true (fun k_5 w_15 => k_5 v_data w_15) (fun t40_1 w_16 => 
   gd t33 true (fun k_6 w_17 => k_6 v_i_1 w_17) (fun t41_1 w_18 => 
   gd t33 true (fun k_7 w_19 => pur Try.prog (Instr.indexAt 71 t40_1 t41_1) fun t42 => k_7 t42 w_19) (fun t42_1 w_20 => 
   gd t33 true (fun k_8 w_21 => rd Try.prog (Instr.loadAt 25 t42_1) (fun t43 => k_8 t43 w_21) w_21) (fun t43_1 w_22 => 
   gd t33 true (fun k_9 w_23 => callF Try.prog t35_1 #[t39_1, t43_1] (fun t44 w_24 => k_9 t44 w_24) w_23) (fun t44_1 w_25 => 
   gd t33 true (fun k_10 w_26 => pur Try.prog (binS .lss 3 false true t44_1 (.int .i64 0)) fun t45 => k_10 t45 w_26) (fun t45_1 w_27 => 
   gd t33 true (fun k_11 w_28 => pur Try.prog (Op.unary .not t45_1) fun t46 => k_11 t46 w_28) (fun t46_1 w_29 => 
   pur Try.prog (pickS t33 t46_1 (.bool false)) fun t47 => 
   condS t47
    (pur Try.prog (binS .add 3 false true v_i_1 (.int .i64 1)) fun t49 => 
   J_1 t49 w_29)
    (lp 1 (fun J_2 => fun v_j_1 w_30 => ∀ _j : Fr, 
   pur Try.prog (binS .leq 3 false false v_i_1 v_j_1) fun t52 => 
   gd t52 true (fun k_12 w_31 => k_12 v_cmp w_31) (fun t54_1 w_32 => 
   gd t52 true (fun k_13 w_33 => k_13 v_data w_33) (fun t55_1 w_34 => 
   gd t52 true (fun k_14 w_35 => k_14 v_a w_35) (fun t56_1 w_36 => 
   gd t52 true (fun k_15 w_37 => pur Try.prog (Instr.indexAt 71 t55_1 t56_1) fun t57 => k_15 t57 w_37) (fun t57_1 w_38 => 
   gd t52 true (fun k_16 w_39 => rd Try.prog (Instr.loadAt 25 t57_1) (fun t58 => k_16 t58 w_39) w_39) (fun t58_1 w_40 => 
   gd t52 true (fun k_17 w_41 => k_17 v_data w_41) (fun t59_1 w_42 => 
   gd t52 true (fun k_18 w_43 => k_18 v_j_1 w_43) (fun t60_1 w_44 => 
   gd t52 true (fun k_19 w_45 => pur Try.prog (Instr.indexAt 71 t59_1 t60_1) fun t61 => k_19 t61 w_45) (fun t61_1 w_46 => 
   gd t52 true (fun k_20 w_47 => rd Try.prog (Instr.loadAt 25 t61_1) (fun t62 => k_20 t62 w_47) w_47) (fun t62_1 w_48 => 
   gd t52 true (fun k_21 w_49 => callF Try.prog t54_1 #[t58_1, t62_1] (fun t63 w_50 => k_21 t63 w_50) w_49) (fun t63_1 w_51 => 
   gd t52 true (fun k_22 w_52 => pur Try.prog (binS .lss 3 false true t63_1 (.int .i64 0)) fun t64 => k_22 t64 w_52) (fun t64_1 w_53 => 
   pur Try.prog (pickS t52 t64_1 (.bool false)) fun t65 => 
   condS t65
    (pur Try.prog (binS .sub 3 false true v_j_1 (.int .i64 1)) fun t67 => 
   J_2 t67 w_53)
    (pur Try.prog (binS .gtr 3 false false v_i_1 v_j_1) fun t70 => 
  condS t70
   (Q v_i_1 w_53)
   (pur Try.prog (Instr.indexAt 71 v_data v_j_1) fun t77 => 
  rd Try.prog (Instr.loadAt 25 t77) (fun t78 => 
  pur Try.prog (Instr.indexAt 71 v_data v_i_1) fun t81 => 
  rd Try.prog (Instr.loadAt 25 t81) (fun t82 => 
  pur Try.prog (Instr.indexAt 71 v_data v_i_1) fun t83 => 
  act Try.prog (thenU (Instr.storeAt 25 t83 t78)) (fun _ w_54 => 
  pur Try.prog (Instr.indexAt 71 v_data v_j_1) fun t84 => 
  act Try.prog (thenU (Instr.storeAt 25 t84 t82)) (fun _ w_55 => 
  pur Try.prog (binS .add 3 false true v_i_1 (.int .i64 1)) fun t86 => 
  pur Try.prog (binS .sub 3 false true v_j_1 (.int .i64 1)) fun t88 => 
  J t86 t88 w_55) w_54) (World.drew w_53)) (World.drew w_53)) (World.drew w_53)))) w_51) w_48) w_46) w_44) w_42) w_40) w_38) w_36) w_34) w_32) (World.drew w_30)) [v_j] w_29)) w_27) w_25) w_22) w_20) w_18) w_16) w_14) w_12) w_10) w_8) w_6) (World.drew w_4)) [v_i] w_3) [t28, t30] w_2) w_1) (World.drew w)) (World.drew w)) (World.drew w)
theorem eq80 (v_data v_a v_b v_pivot v_cmp : Value) (Q : Value → World → Prop) (w : World) : semF Try.prog 80 [v_data, v_a, v_b, v_pivot, v_cmp] Q w = S80 v_data v_a v_b v_pivot v_cmp Q w := by kernel_rfl
theorem ref80 {v_data v_a v_b v_pivot v_cmp : Value} {Q : Value → World → Prop} {w : World} (h : S80 v_data v_a v_b v_pivot v_cmp Q w) : callS Try.prog 80 #[v_data, v_a, v_b, v_pivot, v_cmp] Q w :=
  callS_of mix (fun a w => Try.call80 a w) (by kernel_rfl) (by rw [eq80]; exact h)
-- slices.partitionCmpFunc[commons/api.Span]
def S81 (v_data v_a v_b v_pivot v_cmp : Value) (Q : Value → World → Prop) (w : World) : Prop :=
 pur Try.prog (Instr.indexAt 71 v_data v_pivot) fun t20 => 
 rd Try.prog (Instr.loadAt 25 t20) (fun t21 => 
 pur Try.prog (Instr.indexAt 71 v_data v_a) fun t24 => 
 rd Try.prog (Instr.loadAt 25 t24) (fun t25 => 
 pur Try.prog (Instr.indexAt 71 v_data v_a) fun t26 => 
 act Try.prog (thenU (Instr.storeAt 25 t26 t21)) (fun _ w_1 => 
 pur Try.prog (Instr.indexAt 71 v_data v_pivot) fun t27 => 
 act Try.prog (thenU (Instr.storeAt 25 t27 t25)) (fun _ w_2 => 
 pur Try.prog (binS .add 3 false true v_a (.int .i64 1)) fun t29 => 
 pur Try.prog (binS .sub 3 false true v_b (.int .i64 1)) fun t31 => 
 lp 1 (fun J => fun v_i w_3 => ∀ _j : Fr, 
  pur Try.prog (binS .leq 3 false false v_i t31) fun t34 => 
  gd t34 true (fun k w_4 => k v_cmp w_4) (fun t36_1 w_5 => 
  gd t34 true (fun k_1 w_6 => k_1 v_data w_6) (fun t37_1 w_7 => 
  gd t34 true (fun k_2 w_8 => k_2 v_i w_8) (fun t38_1 w_9 => 
  gd t34 true (fun k_3 w_10 => pur Try.prog (Instr.indexAt 71 t37_1 t38_1) fun t39 => k_3 t39 w_10) (fun t39_1 w_11 => 
  gd t34 true (fun k_4 w_12 => rd Try.prog (Instr.loadAt 25 t39_1) (fun t40 => k_4 t40 w_12) w_12) (fun t40_1 w_13 => 
  gd t34 true (fun k_5 w_14 => k_5 v_data w_14) (fun t41_1 w_15 => 
  gd t34 true (fun k_6 w_16 => k_6 v_a w_16) (fun t42_1 w_17 => 
  gd t34 true (fun k_7 w_18 => pur Try.prog (Instr.indexAt 71 t41_1 t42_1) fun t43 => k_7 t43 w_18) (fun t43_1 w_19 => 
  gd t34 true (fun k_8 w_20 => rd Try.prog (Instr.loadAt 25 t43_1) (fun t44 => k_8 t44 w_20) w_20) (fun t44_1 w_21 => 
  gd t34 true (fun k_9 w_22 => callF Try.prog t36_1 #[t40_1, t44_1] (fun t45 w_23 => k_9 t45 w_23) w_22) (fun t45_1 w_24 => 
  gd t34 true (fun k_10 w_25 => pur Try.prog (binS .lss 3 false true t45_1 (.int .i64 0)) fun t46 => k_10 t46 w_25) (fun t46_1 w_26 => 
  pur Try.prog (pickS t34 t46_1 (.bool false)) fun t47 => 
  condS t47
   (pur Try.prog (binS .add 3 false true v_i (.int .i64 1)) fun t49 => 
  J t49 w_26)
   (lp 1 (fun J_1 => fun v_j w_27 => ∀ _j : Fr, 
  pur Try.prog (binS .leq 3 false false v_i v_j) fun t52 => 
  gd t52 true (fun k_11 w_28 => k_11 v_cmp w_28) (fun t54_1 w_29 => 
  gd t52 true (fun k_12 w_30 => k_12 v_data w_30) (fun t55_1 w_31 => 
  gd t52 true (fun k_13 w_32 => k_13 v_j w_32) (fun t56_1 w_33 => 
  gd t52 true (fun k_14 w_34 => pur Try.prog (Instr.indexAt 71 t55_1 t56_1) fun t57 => k_14 t57 w_34) (fun t57_1 w_35 => 
  gd t52 true (fun k_15 w_36 => rd Try.prog (Instr.loadAt 25 t57_1) (fun t58 => k_15 t58 w_36) w_36) (fun t58_1 w_37 => 
  gd t52 true (fun k_16 w_38 => k_16 v_data w_38) (fun t59_1 w_39 => 
  gd t52 true (fun k_17 w_40 => k_17 v_a w_40) (fun t60_1 w_41 => 
  gd t52 true (fun k_18 w_42 => pur Try.prog (Instr.indexAt 71 t59_1 t60_1) fun t61 => k_18 t61 w_42) (fun t61_1 w_43 => 
  gd t52 true (fun k_19 w_44 => rd Try.prog (Instr.loadAt 25 t61_1) (fun t62 => k_19 t62 w_44) w_44) (fun t62_1 w_45 => 
  gd t52 true (fun k_20 w_46 => callF Try.prog t54_1 #[t58_1, t62_1] (fun t63 w_47 => k_20 t63 w_47) w_46) (fun t63_1 w_48 => 
  gd t52 true (fun k_21 w_49 => pur Try.prog (binS .lss 3 false true t63_1 (.int .i64 0)) fun t64 => k_21 t64 w_49) (fun t64_1 w_50 => 
  gd t52 true (fun k_22 w_51 => pur Try.prog (Op.unary .not t64_1) fun t65 => k_22 t65 w_51) (fun t65_1 w_52 => 
  pur Try.prog (pickS t52 t65_1 (.bool false)) fun t66 => 
  condS t66
   (pur Try.prog (binS .sub 3 false true v_j (.int .i64 1)) fun t68 => 
  J_1 t68 w_52)
   (pur Try.prog (binS .gtr 3 false false v_i v_j) fun t71 => 
 condS t71
  (pur Try.prog (Instr.indexAt 71 v_data v_a) fun t78 => 
  rd Try.prog (Instr.loadAt 25 t78) (fun t79 => 
  pur Try.prog (Instr.indexAt 71 v_data v_j) fun t82 => 
  rd Try.prog (Instr.loadAt 25 t82) (fun t83 => 
  pur Try.prog (Instr.indexAt 71 v_data v_j) fun t84 => 
  act Try.prog (thenU (Instr.storeAt 25 t84 t79)) (fun _ w_53 => 
  pur Try.prog (Instr.indexAt 71 v_data v_a) fun t85 => 
  act Try.prog (thenU (Instr.storeAt 25 t85 t83)) (fun _ w_54 => 
  Q (.tuple #[v_j, (.bool true)]) w_54) w_53) (World.drew w_52)) (World.drew w_52)) (World.drew w_52))
  (pur Try.prog (Instr.indexAt 71 v_data v_j) fun t93 => 
 rd Try.prog (Instr.loadAt 25 t93) (fun t94 => 
 pur Try.prog (Instr.indexAt 71 v_data v_i) fun t97 => 
 rd Try.prog (Instr.loadAt 25 t97) (fun t98 => 
 pur Try.prog (Instr.indexAt 71 v_data v_i) fun t99 => 
 act Try.prog (thenU (Instr.storeAt 25 t99 t94)) (fun _ w_55 => 
 pur Try.prog (Instr.indexAt 71 v_data v_j) fun t100 => 
 act Try.prog (thenU (Instr.storeAt 25 t100 t98)) (fun _ w_56 => 
 pur Try.prog (binS .add 3 false true v_i (.int .i64 1)) fun t102 => 
 pur Try.prog (binS .sub 3 false true v_j (.int .i64 1)) fun t104 => 
 lp 2 (fun J_2 => fun v_i_1 v_j_1 w_57 => ∀ _j : Fr, 
  lp 1 (fun J_3 => fun v_i_2 w_58 => ∀ _j : Fr, 
   pur Try.prog (binS .leq 3 false false v_i_2 v_j_1) fun t107 => 
   gd t107 true (fun k_23 w_59 => k_23 v_cmp w_59) (fun t109_1 w_60 => 
   gd t107 true (fun k_24 w_61 => k_24 v_data w_61) (fun t110_1 w_62 => 
   gd t107 true (fun k_25 w_63 => k_25 v_i_2 w_63) (fun t111_1 w_64 => 
   gd t107 true (fun k_26 w_65 => pur Try.prog (Instr.indexAt 71 t110_1 t111_1) fun t112 => k_26 t112 w_65) (fun t112_1 w_66 => 
   gd t107 true (fun k_27 w_67 => rd Try.prog (Instr.loadAt 25 t112_1) (fun t113 => k_27 t113 w_67) w_67) (fun t113_1 w_68 => 
   gd t107 true (fun k_28 w_69 => k_28 v_data w_69) (fun t114_1 w_70 => 
   gd t107 true (fun k_29 w_71 => k_29 v_a w_71) (fun t115_1 w_72 => 
   gd t107 true (fun k_30 w_73 => pur Try.prog (Instr.indexAt 71 t114_1 t115_1) fun t116 => k_30 t116 w_73) (fun t116_1 w_74 => 
   gd t107 true (fun k_31 w_75 => rd Try.prog (Instr.loadAt 25 t116_1) (fun t117 => k_31 t117 w_75) w_75) (fun t117_1 w_76 => 
   gd t107 true (fun k_32 w_77 => callF Try.prog t109_1 #[t113_1, t117_1] (fun t118 w_78 => k_32 t118 w_78) w_77) (fun t118_1 w_79 => 
   gd t107 true (fun k_33 w_80 => pur Try.prog (binS .lss 3 false true t118_1 (.int .i64 0)) fun t119 => k_33 t119 w_80) (fun t119_1 w_81 => 
   pur Try.prog (pickS t107 t119_1 (.bool false)) fun t120 => 
   condS t120
    (pur Try.prog (binS .add 3 false true v_i_2 (.int .i64 1)) fun t122 => 
   J_3 t122 w_81)
    (lp 1 (fun J_4 => fun v_j_2 w_82 => ∀ _j : Fr, 
   pur Try.prog (binS .leq 3 false false v_i_2 v_j_2) fun t125 => 
   gd t125 true (fun k_34 w_83 => k_34 v_cmp w_83) (fun t127_1 w_84 => 
   gd t125 true (fun k_35 w_85 => k_35 v_data w_85) (fun t128_1 w_86 => 
   gd t125 true (fun k_36 w_87 => k_36 v_j_2 w_87) (fun t129_1 w_88 => 
   gd t125 true (fun k_37 w_89 => pur Try.prog (Instr.indexAt 71 t128_1 t129_1) fun t130 => k_37 t130 w_89) (fun t130_1 w_90 => 
   gd t125 true (fun k_38 w_91 => rd Try.prog (Instr.loadAt 25 t130_1) (fun t131 => k_38 t131 w_91) w_91) (fun t131_1 w_92 => 
   gd t125 true (fun k_39 w_93 => k_39 v_data w_93) (fun t132_1 w_94 => 
   gd t125 true (fun k_40 w_95 => k_40 v_a w_95) (fun t133_1 w_96 => 
   gd t125 true (fun k_41 w_97 => pur Try.prog (Instr.indexAt 71 t132_1 t133_1) fun t134 => k_41 t134 w_97) (fun t134_1 w_98 => 
   gd t125 true (fun k_42 w_99 => rd Try.prog (Instr.loadAt 25 t134_1) (fun t135 => k_42 t135 w_99) w_99) (fun t135_1 w_100 => 
   gd t125 true (fun k_43 w_101 => callF Try.prog t127_1 #[t131_1, t135_1] (fun t136 w_102 => k_43 t136 w_102) w_101) (fun t136_1 w_103 => 
   gd t125 true (fun k_44 w_104 => pur Try.prog (binS .lss 3 false true t136_1 (.int .i64 0)) fun t137 => k_44 t137 w_104) (fun t137_1 w_105 => 
   gd t125 true (fun k_45 w_106 => pur Try.prog (Op.unary .not t137_1) fun t138 => k_45 t138 w_106) (fun t138_1 w_107 => 
   pur Try.prog (pickS t125 t138_1 (.bool false)) fun t139 => 
   condS t139
    (pur Try.prog (binS .sub 3 false true v_j_2 (.int .i64 1)) fun t141 => 
   J_4 t141 w_107)
    (pur Try.prog (binS .gtr 3 false false v_i_2 v_j_2) fun t144 => 
  condS t144
   (pur Try.prog (Instr.indexAt 71 v_data v_a) fun t169 => 
 rd Try.prog (Instr.loadAt 25 t169) (fun t170 => 
 pur Try.prog (Instr.indexAt 71 v_data v_j_2) fun t173 => 
 rd Try.prog (Instr.loadAt 25 t173) (fun t174 => 
 pur Try.prog (Instr.indexAt 71 v_data v_j_2) fun t175 => 
 act Try.prog (thenU (Instr.storeAt 25 t175 t170)) (fun _ w_108 => 
 pur Try.prog (Instr.indexAt 71 v_data v_a) fun t176 => 
 act Try.prog (thenU (Instr.storeAt 25 t176 t174)) (fun _ w_109 => 
 Q (.tuple #[v_j_2, (.bool false)]) w_109) w_108) (World.drew w_107)) (World.drew w_107)) (World.drew w_107))
   (pur Try.prog (Instr.indexAt 71 v_data v_j_2) fun t151 => 
  rd Try.prog (Instr.loadAt 25 t151) (fun t152 => 
  pur Try.prog (Instr.indexAt 71 v_data v_i_2) fun t155 => 
  rd Try.prog (Instr.loadAt 25 t155) (fun t156 => 
  pur Try.prog (Instr.indexAt 71 v_data v_i_2) fun t157 => 
  act Try.prog (thenU (Instr.storeAt 25 t157 t152)) (fun _ w_110 => 
  pur Try.prog (Instr.indexAt 71 v_data v_j_2) fun t158 => 
  act Try.prog (thenU (Instr.storeAt 25 t158 t156)) (fun _ w_111 => 
  pur Try.prog (binS .add 3 false true v_i_2 (.int .i64 1)) fun t160 => 
  pur Try.prog (binS .sub 3 false true v_j_2 (.int .i64 1)) fun t162 => 
  J_2 t160 t162 w_111) w_110) (World.drew w_107)) (World.drew w_107)) (World.drew w_107)))) w_105) w_103) w_100) w_98) w_96) w_94) w_92) w_90) w_88) w_86) w_84) (World.drew w_82)) [v_j_1] w_81)) w_79) w_76) w_74) w_72) w_70) w_68) w_66) w_64) w_62) w_60) (World.drew w_58)) [v_i_1] w_57) [t102, t104] w_56) w_55) (World.drew w_52)) (World.drew w_52)) (World.drew w_52)))) w_50) w_48) w_45) w_43) w_41) w_39) w_37) w_35) w_33) w_31) w_29) (World.drew w_27)) [t31] w_26)) w_24) w_21) w_19) w_17) w_15) w_13) w_11) w_9) w_7) w_5) (World.drew w_3)) [t29] w_2) w_1) (World.drew w)) (World.drew w)) (World.drew w)
theorem eq81 (v_data v_a v_b v_pivot v_cmp : Value) (Q : Value → World → Prop) (w : World) : semF Try.prog 81 [v_data, v_a, v_b, v_pivot, v_cmp] Q w = S81 v_data v_a v_b v_pivot v_cmp Q w := by kernel_rfl
theorem ref81 {v_data v_a v_b v_pivot v_cmp : Value} {Q : Value → World → Prop} {w : World} (h : S81 v_data v_a v_b v_pivot v_cmp Q w) : callS Try.prog 81 #[v_data, v_a, v_b, v_pivot, v_cmp] Q w :=
  callS_of mix (fun a w => Try.call81 a w) (by kernel_rfl) (by rw [eq81]; exact h)
-- slices.siftDownCmpFunc[commons/api.Span]
def S82 (v_data v_lo v_hi v_first v_cmp : Value) (Q : Value → World → Prop) (w : World) : Prop :=
 lp 1 (fun J => fun v_root w_1 => ∀ _j : Fr, 
  pur Try.prog (binS .mul 3 true false (.int .i64 2) v_root) fun t14 => 
  pur Try.prog (binS .add 3 false true t14 (.int .i64 1)) fun t15 => 
  pur Try.prog (binS .geq 3 false false t15 v_hi) fun t18 => 
  condS t18
   (Q (.tuple #[]) w_1)
   (jn 1 (fun J_1 => 
   pur Try.prog (binS .add 3 false true t15 (.int .i64 1)) fun t20 => 
   pur Try.prog (binS .lss 3 false false t20 v_hi) fun t22 => 
   gd t22 true (fun k w_2 => k v_cmp w_2) (fun t24_1 w_3 => 
   gd t22 true (fun k_1 w_4 => k_1 v_data w_4) (fun t25_1 w_5 => 
   gd t22 true (fun k_2 w_6 => k_2 v_first w_6) (fun t26_1 w_7 => 
   gd t22 true (fun k_3 w_8 => k_3 t15 w_8) (fun t27_1 w_9 => 
   gd t22 true (fun k_4 w_10 => pur Try.prog (binS .add 3 false false t26_1 t27_1) fun t28 => k_4 t28 w_10) (fun t28_1 w_11 => 
   gd t22 true (fun k_5 w_12 => pur Try.prog (Instr.indexAt 71 t25_1 t28_1) fun t29 => k_5 t29 w_12) (fun t29_1 w_13 => 
   gd t22 true (fun k_6 w_14 => rd Try.prog (Instr.loadAt 25 t29_1) (fun t30 => k_6 t30 w_14) w_14) (fun t30_1 w_15 => 
   gd t22 true (fun k_7 w_16 => k_7 v_data w_16) (fun t31_1 w_17 => 
   gd t22 true (fun k_8 w_18 => k_8 v_first w_18) (fun t32_1 w_19 => 
   gd t22 true (fun k_9 w_20 => k_9 t15 w_20) (fun t33_1 w_21 => 
   gd t22 true (fun k_10 w_22 => pur Try.prog (binS .add 3 false false t32_1 t33_1) fun t34 => k_10 t34 w_22) (fun t34_1 w_23 => 
   gd t22 true (fun k_11 w_24 => pur Try.prog (binS .add 3 false true t34_1 (.int .i64 1)) fun t35 => k_11 t35 w_24) (fun t35_1 w_25 => 
   gd t22 true (fun k_12 w_26 => pur Try.prog (Instr.indexAt 71 t31_1 t35_1) fun t36 => k_12 t36 w_26) (fun t36_1 w_27 => 
   gd t22 true (fun k_13 w_28 => rd Try.prog (Instr.loadAt 25 t36_1) (fun t37 => k_13 t37 w_28) w_28) (fun t37_1 w_29 => 
   gd t22 true (fun k_14 w_30 => callF Try.prog t24_1 #[t30_1, t37_1] (fun t38 w_31 => k_14 t38 w_31) w_30) (fun t38_1 w_32 => 
   gd t22 true (fun k_15 w_33 => pur Try.prog (binS .lss 3 false true t38_1 (.int .i64 0)) fun t39 => k_15 t39 w_33) (fun t39_1 w_34 => 
   pur Try.prog (pickS t22 t39_1 (.bool false)) fun t40 => 
   condS t40
    (pur Try.prog (binS .add 3 false true t15 (.int .i64 1)) fun t42 => 
    J_1 t42 w_34)
    (J_1 t15 w_34)) w_32) w_29) w_27) w_25) w_23) w_21) w_19) w_17) w_15) w_13) w_11) w_9) w_7) w_5) w_3) (World.drew w_1))
  (fun v_child w_35 => ∀ _j : Fr, 
   pur Try.prog (binS .add 3 false false v_first v_root) fun t47 => 
   pur Try.prog (Instr.indexAt 71 v_data t47) fun t48 => 
   rd Try.prog (Instr.loadAt 25 t48) (fun t49 => 
   pur Try.prog (binS .add 3 false false v_first v_child) fun t53 => 
   pur Try.prog (Instr.indexAt 71 v_data t53) fun t54 => 
   rd Try.prog (Instr.loadAt 25 t54) (fun t55 => 
   callF Try.prog v_cmp #[t49, t55] (fun t56 w_36 => 
   pur Try.prog (binS .lss 3 false true t56 (.int .i64 0)) fun t57 => 
   pur Try.prog (Op.unary .not t57) fun t58 => 
   condS t58
    (Q (.tuple #[]) w_36)
    (pur Try.prog (binS .add 3 false false v_first v_root) fun t62 => 
   pur Try.prog (binS .add 3 false false v_first v_child) fun t66 => 
   pur Try.prog (binS .add 3 false false v_first v_child) fun t70 => 
   pur Try.prog (Instr.indexAt 71 v_data t70) fun t71 => 
   rd Try.prog (Instr.loadAt 25 t71) (fun t72 => 
   pur Try.prog (binS .add 3 false false v_first v_root) fun t76 => 
   pur Try.prog (Instr.indexAt 71 v_data t76) fun t77 => 
   rd Try.prog (Instr.loadAt 25 t77) (fun t78 => 
   pur Try.prog (Instr.indexAt 71 v_data t62) fun t79 => 
   act Try.prog (thenU (Instr.storeAt 25 t79 t72)) (fun _ w_37 => 
   pur Try.prog (Instr.indexAt 71 v_data t66) fun t80 => 
   act Try.prog (thenU (Instr.storeAt 25 t80 t78)) (fun _ w_38 => 
   J v_child w_38) w_37) (World.drew w_36)) (World.drew w_36)) (World.drew w_36))) (World.drew w_35)) (World.drew w_35)) (World.drew w_35)))) [v_lo] w
theorem eq82 (v_data v_lo v_hi v_first v_cmp : Value) (Q : Value → World → Prop) (w : World) : semF Try.prog 82 [v_data, v_lo, v_hi, v_first, v_cmp] Q w = S82 v_data v_lo v_hi v_first v_cmp Q w := by kernel_rfl
theorem ref82 {v_data v_lo v_hi v_first v_cmp : Value} {Q : Value → World → Prop} {w : World} (h : S82 v_data v_lo v_hi v_first v_cmp Q w) : callS Try.prog 82 #[v_data, v_lo, v_hi, v_first, v_cmp] Q w :=
  callS_of mix (fun a w => Try.call82 a w) (by kernel_rfl) (by rw [eq82]; exact h)
-- slices.medianAdjacentCmpFunc[commons/api.Span]
def S83 (v_data v_a v_swaps v_cmp : Value) (Q : Value → World → Prop) (w : World) : Prop :=
 pur Try.prog (binS .sub 3 false true v_a (.int .i64 1)) fun t11 => 
 pur Try.prog (binS .add 3 false true v_a (.int .i64 1)) fun t14 => 
 callS Try.prog 84 #[v_data, t11, v_a, t14, v_swaps, v_cmp] (fun t17 w_1 => 
 Q t17 w_1) w
theorem eq83 (v_data v_a v_swaps v_cmp : Value) (Q : Value → World → Prop) (w : World) : semF Try.prog 83 [v_data, v_a, v_swaps, v_cmp] Q w = S83 v_data v_a v_swaps v_cmp Q w := by kernel_rfl
theorem ref83 {v_data v_a v_swaps v_cmp : Value} {Q : Value → World → Prop} {w : World} (h : S83 v_data v_a v_swaps v_cmp Q w) : callS Try.prog 83 #[v_data, v_a, v_swaps, v_cmp] Q w :=
  callS_of mix (fun a w => Try.call83 a w) (by kernel_rfl) (by rw [eq83]; exact h)
-- slices.medianCmpFunc[commons/api.Span]
def S84 (v_data v_a v_b v_c v_swaps v_cmp : Value) (Q : Value → World → Prop) (w : World) : Prop :=
 callS Try.prog 85 #[v_data, v_a, v_b, v_swaps, v_cmp] (fun t19 w_1 => 
 pur Try.prog (Instr.extract t19 0) fun t20 => 
 pur Try.prog (Instr.extract t19 1) fun t21 => 
 callS Try.prog 85 #[v_data, t21, v_c, v_swaps, v_cmp] (fun t28 w_2 => 
 pur Try.prog (Instr.extract t28 0) fun t29 => 
 pur Try.prog (Instr.extract t28 1) fun _ => 
 callS Try.prog 85 #[v_data, t20, t29, v_swaps, v_cmp] (fun t37 w_3 => 
 pur Try.prog (Instr.extract t37 0) fun _ => 
 pur Try.prog (Instr.extract t37 1) fun t39 => 
 Q t39 w_3) w_2) w_1) w
theorem eq84 (v_data v_a v_b v_c v_swaps v_cmp : Value) (Q : Value → World → Prop) (w : World) : semF Try.prog 84 [v_data, v_a, v_b, v_c, v_swaps, v_cmp] Q w = S84 v_data v_a v_b v_c v_swaps v_cmp Q w := by kernel_rfl
theorem ref84 {v_data v_a v_b v_c v_swaps v_cmp : Value} {Q : Value → World → Prop} {w : World} (h : S84 v_data v_a v_b v_c v_swaps v_cmp Q w) : callS Try.prog 84 #[v_data, v_a, v_b, v_c, v_swaps, v_cmp] Q w :=
  callS_of mix (fun a w => Try.call84 a w) (by kernel_rfl) (by rw [eq84]; exact h)
-- slices.order2CmpFunc[commons/api.Span]
def S85 (v_data v_a v_b v_swaps v_cmp : Value) (Q : Value → World → Prop) (w : World) : Prop :=
 pur Try.prog (Instr.indexAt 71 v_data v_b) fun t15 => 
 rd Try.prog (Instr.loadAt 25 t15) (fun t16 => 
 pur Try.prog (Instr.indexAt 71 v_data v_a) fun t19 => 
 rd Try.prog (Instr.loadAt 25 t19) (fun t20 => 
 callF Try.prog v_cmp #[t16, t20] (fun t21 w_1 => 
 pur Try.prog (binS .lss 3 false true t21 (.int .i64 0)) fun t22 => 
 condS t22
  (pur Try.prog (nilV v_swaps) fun t24 => 
  rd Try.prog (Instr.loadAt 3 t24) (fun t25 => 
  pur Try.prog (binS .add 3 false true t25 (.int .i64 1)) fun t26 => 
  pur Try.prog (nilV v_swaps) fun t27 => 
  act Try.prog (thenU (Instr.storeAt 3 t27 t26)) (fun _ w_2 => 
  Q (.tuple #[v_b, v_a]) w_2) w_1) w_1)
  (Q (.tuple #[v_a, v_b]) w_1)) (World.drew w)) (World.drew w)) (World.drew w)
theorem eq85 (v_data v_a v_b v_swaps v_cmp : Value) (Q : Value → World → Prop) (w : World) : semF Try.prog 85 [v_data, v_a, v_b, v_swaps, v_cmp] Q w = S85 v_data v_a v_b v_swaps v_cmp Q w := by kernel_rfl
theorem ref85 {v_data v_a v_b v_swaps v_cmp : Value} {Q : Value → World → Prop} {w : World} (h : S85 v_data v_a v_b v_swaps v_cmp Q w) : callS Try.prog 85 #[v_data, v_a, v_b, v_swaps, v_cmp] Q w :=
  callS_of mix (fun a w => Try.call85 a w) (by kernel_rfl) (by rw [eq85]; exact h)
end Go.Proofs.Ytmegjkejinfpcaa
