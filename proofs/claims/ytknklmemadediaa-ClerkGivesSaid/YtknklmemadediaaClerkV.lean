/- What ClerkGives computes: true. Conditions: none. -/
import Derived.Test.YtknklmemadediaaClerkO
import Derived.Test.YtknklmemadediaaRefK
set_option linter.unusedSimpArgs false
set_option linter.unusedVariables false
namespace Go.Proofs.Ytknklmemadediaa
open Go.Sh Go.Proofs.Ytknklmemadediaa.Mi
set_option maxRecDepth 100000
def P5_4 (t130 : Value) (t132 : Value) (t138 : Value) (t20 : Value) (t59 : Value) (v_block : Value) (v_mode : Value) (v_n : Value) (w_78 : World) (Q : Value → World → Prop) : Prop :=
 pur Try.prog (binS .add 3 false true v_block (.int .i64 1)) fun t160 => 
  pur Try.prog (Instr.build 23 #[(0, v_block), (1, t160)]) fun t161 => 
  act Try.prog (Instr.alloc 23 true (.tuple #[])) (fun t24 w_79 => 
  act Try.prog (thenU (Instr.storeAt 23 t24 t161)) (fun _ w_80 => 
  pur Try.prog (Op.unary .not t130) fun t163 => 
  gd t163 false (fun k_28 w_81 => k_28 t138 w_81) (fun t165_1 w_82 => 
  gd t163 false (fun k_29 w_83 => k_29 t132 w_83) (fun t166_1 w_84 => 
  gd t163 false (fun k_30 w_85 => pur Try.prog (Builtin.len_ #[27] 3 #[t166_1]) fun t167 => k_30 t167 w_85) (fun t167_1 w_86 => 
  gd t163 false (fun k_31 w_87 => pur Try.prog (binS .gtr 3 false true t167_1 (.int .i64 0)) fun t168 => k_31 t168 w_87) (fun t168_1 w_88 => 
  gd t163 false (fun k_32 w_89 => pur Try.prog (binS .neq 4 false false t165_1 t168_1) fun t169 => k_32 t169 w_89) (fun t169_1 w_90 => 
  pur Try.prog (pickS t163 (.bool true) t169_1) fun t170 => 
  gd t170 false (fun k_33 w_91 => k_33 t138 w_91) (fun t172_1 w_92 => 
  gd t170 false (fun k_34 w_93 => k_34 t172_1 w_93) (fun t173_1 w_94 => 
  gd t173_1 true (fun k_35 w_95 => pur Try.prog (Instr.fieldAt 39 t20 0) fun t174 => k_35 t174 w_95) (fun t174_1 w_96 => 
  gd t173_1 true (fun k_36 w_97 => rd Try.prog (Instr.loadAt 3 t174_1) (fun t175 => k_36 t175 w_97) w_97) (fun t175_1 w_98 => 
  gd t173_1 true (fun k_37 w_99 => pur Try.prog (binS .neq 3 false true t175_1 (.int .i64 9)) fun t176 => k_37 t176 w_99) (fun t176_1 w_100 => 
  gd t173_1 true (fun k_38 w_101 => k_38 t176_1 w_101) (fun t177_1 w_102 => 
  gd t177_1 false (fun k_39 w_103 => pur Try.prog (Instr.fieldAt 39 t20 4) fun t178 => k_39 t178 w_103) (fun t178_1 w_104 => 
  gd t177_1 false (fun k_40 w_105 => rd Try.prog (Instr.loadAt 3 t178_1) (fun t179 => k_40 t179 w_105) w_105) (fun t179_1 w_106 => 
  gd t177_1 false (fun k_41 w_107 => k_41 v_n w_107) (fun t180_1 w_108 => 
  gd t177_1 false (fun k_42 w_109 => pur Try.prog (binS .neq 3 false false t179_1 t180_1) fun t181 => k_42 t181 w_109) (fun t181_1 w_110 => 
  gd t173_1 true (fun k_43 w_111 => pur Try.prog (pickS t177_1 (.bool true) t181_1) fun t182 => k_43 t182 w_111) (fun t182_1 w_112 => 
  gd t173_1 true (fun k_44 w_113 => k_44 t182_1 w_113) (fun t183_1 w_114 => 
  gd t183_1 false (fun k_45 w_115 => pur Try.prog (Instr.fieldAt 39 t20 5) fun t184 => k_45 t184 w_115) (fun t184_1 w_116 => 
  gd t183_1 false (fun k_46 w_117 => rd Try.prog (Instr.loadAt 32 t184_1) (fun t185 => k_46 t185 w_117) w_117) (fun t185_1 w_118 => 
  gd t183_1 false (fun k_47 w_119 => pur Try.prog (binS .neq 32 false true t185_1 (.int .u64 3)) fun t186 => k_47 t186 w_119) (fun t186_1 w_120 => 
  gd t173_1 true (fun k_48 w_121 => pur Try.prog (pickS t183_1 (.bool true) t186_1) fun t187 => k_48 t187 w_121) (fun t187_1 w_122 => 
  gd t170 false (fun k_49 w_123 => pur Try.prog (pickS t173_1 t187_1 (.bool false)) fun t188 => k_49 t188 w_123) (fun t188_1 w_124 => 
  pur Try.prog (pickS t170 (.bool true) t188_1) fun t189 => 
  gd t189 false (fun k_50 w_125 => k_50 t59 w_125) (fun t191_1 w_126 => 
  gd t189 false (fun k_51 w_127 => callS Try.prog 19 #[t191_1] (fun t192 w_128 => k_51 t192 w_128) w_127) (fun t192_1 w_129 => 
  gd t189 false (fun k_52 w_130 => pur Try.prog (Builtin.len_ #[27] 3 #[t192_1]) fun t193 => k_52 t193 w_130) (fun t193_1 w_131 => 
  gd t189 false (fun k_53 w_132 => pur Try.prog (binS .neq 3 false true t193_1 (.int .i64 0)) fun t194 => k_53 t194 w_132) (fun t194_1 w_133 => 
  pur Try.prog (pickS t189 (.bool true) t194_1) fun t195 => 
  condS t195
   (Q (.bool false) w_133)
   (pur Try.prog (binS .lss 3 false true v_block (.int .i64 0)) fun t197 => 
  gd t197 false (fun k_54 w_134 => k_54 v_block w_134) (fun t199_1 w_135 => 
  gd t197 false (fun k_55 w_136 => pur Try.prog (binS .geq 3 false true t199_1 (.int .i64 4096)) fun t200 => k_55 t200 w_136) (fun t200_1 w_137 => 
  pur Try.prog (pickS t197 (.bool true) t200_1) fun t201 => 
  condS t201
   (callS Try.prog 10 #[] (fun t202 w_138 => 
   Q t202 w_138) w_137)
   (callS Try.prog 10 #[] (fun t203 w_139 => 
  gd t203 true (fun k_56 w_140 => k_56 v_mode w_140) (fun t205_1 w_141 => 
  gd t203 true (fun k_57 w_142 => pur Try.prog (binS .eql 3 false true t205_1 (.int .i64 2)) fun t206 => k_57 t206 w_142) (fun t206_1 w_143 => 
  gd t203 true (fun k_58 w_144 => k_58 t59 w_144) (fun t207_1 w_145 => 
  gd t203 true (fun k_59 w_146 => rd Try.prog (Instr.loadAt 23 t24) (fun t208 => k_59 t208 w_146) w_146) (fun t208_1 w_147 => 
  gd t203 true (fun k_60 w_148 => pur Try.prog (Instr.build 25 #[(0, t208_1), (1, (.int .i64 2))]) fun t209 => k_60 t209 w_148) (fun t209_1 w_149 => 
  gd t203 true (fun k_61 w_150 => act Try.prog (Instr.buildSlice 27 1 #[(0, t209_1)]) (fun t210 w_151 => k_61 t210 w_151) w_150) (fun t210_1 w_152 => 
  gd t203 true (fun k_62 w_153 => callS Try.prog 16 #[t207_1, t210_1] (fun t211 w_154 => k_62 t211 w_154) w_153) (fun t211_1 w_155 => 
  gd t203 true (fun k_63 w_156 => pur Try.prog (binS .eql 4 false false t206_1 t211_1) fun t212 => k_63 t212 w_156) (fun t212_1 w_157 => 
  pur Try.prog (pickS t203 t212_1 (.bool false)) fun t213 => 
  gd t213 true (fun k_64 w_158 => k_64 v_mode w_158) (fun t215_1 w_159 => 
  gd t213 true (fun k_65 w_160 => pur Try.prog (binS .geq 3 false true t215_1 (.int .i64 1)) fun t216 => k_65 t216 w_160) (fun t216_1 w_161 => 
  gd t213 true (fun k_66 w_162 => k_66 t59 w_162) (fun t217_1 w_163 => 
  gd t213 true (fun k_67 w_164 => rd Try.prog (Instr.loadAt 23 t24) (fun t218 => k_67 t218 w_164) w_164) (fun t218_1 w_165 => 
  gd t213 true (fun k_68 w_166 => pur Try.prog (Instr.build 25 #[(0, t218_1), (1, (.int .i64 1))]) fun t219 => k_68 t219 w_166) (fun t219_1 w_167 => 
  gd t213 true (fun k_69 w_168 => act Try.prog (Instr.buildSlice 27 1 #[(0, t219_1)]) (fun t220 w_169 => k_69 t220 w_169) w_168) (fun t220_1 w_170 => 
  gd t213 true (fun k_70 w_171 => callS Try.prog 16 #[t217_1, t220_1] (fun t221 w_172 => k_70 t221 w_172) w_171) (fun t221_1 w_173 => 
  gd t213 true (fun k_71 w_174 => pur Try.prog (binS .eql 4 false false t216_1 t221_1) fun t222 => k_71 t222 w_174) (fun t222_1 w_175 => 
  pur Try.prog (pickS t213 t222_1 (.bool false)) fun t223 => 
  Q t223 w_175) w_173) w_170) w_167) w_165) w_163) w_161) w_159) w_157) w_155) w_152) w_149) w_147) w_145) w_143) w_141) w_139) w_137)) w_135) w_133)) w_131) w_129) w_126) w_124) w_122) w_120) w_118) w_116) w_114) w_112) w_110) w_108) w_106) w_104) w_102) w_100) w_98) w_96) w_94) w_92) w_90) w_88) w_86) w_84) w_82) w_80) w_79) w_78
def P5_3 (t5 : Value) (t59 : Value) (v_block : Value) (v_keep : Value) (v_n : Value) (v_want : Value) (w_59 : World) (Q : Value → World → Prop) : Prop :=
 callS Try.prog 21 #[t59] (fun _ w_61 => 
 callS Try.prog 18 #[v_want] (fun t120 w_62 => 
 rd Try.prog (Instr.loadAt 23 t5) (fun t123 => 
 pur Try.prog (Instr.build 25 #[(0, t123), (1, v_keep)]) fun t125 => 
 act Try.prog (Instr.buildSlice 27 1 #[(0, t125)]) (fun t126 w_63 => 
 pur Try.prog (Instr.build 39 #[(0, (.int .i64 8)), (5, (.int .u64 3)), (3, (.int .i64 1)), (7, t126)]) fun t127 => 
 callS Try.prog 15 #[t59, t127] (fun t128 w_64 => 
 pur Try.prog (Instr.extract t128 0) fun _ => 
 pur Try.prog (Instr.extract t128 1) fun t130 => 
 callS Try.prog 19 #[t59] (fun t132 w_65 => 
 callS Try.prog 22 #[t59, t132] (fun t136 w_66 => 
 pur Try.prog (Instr.extract t136 0) fun t137 => 
 pur Try.prog (Instr.extract t136 1) fun t138 => 
 act Try.prog (Instr.alloc 39 true (.tuple #[])) (fun t20 w_67 => 
 act Try.prog (thenU (Instr.storeAt 39 t20 t137)) (fun _ w_68 => 
 callS Try.prog 23 #[t120, v_block] (fun t142 w_69 => 
 pur Try.prog (Instr.extract t142 0) fun t143 => 
 pur Try.prog (Instr.extract t142 1) fun _ => 
 jn 1 (fun J_3 => 
  pur Try.prog (Instr.fieldAt 23 t5 0) fun t145 => 
  rd Try.prog (Instr.loadAt 3 t145) (fun t146 => 
  pur Try.prog (binS .leq 3 false false t146 v_block) fun t148 => 
  gd t148 true (fun k_24 w_70 => k_24 v_block w_70) (fun t150_1 w_71 => 
  gd t148 true (fun k_25 w_72 => pur Try.prog (Instr.fieldAt 23 t5 1) fun t151 => k_25 t151 w_72) (fun t151_1 w_73 => 
  gd t148 true (fun k_26 w_74 => rd Try.prog (Instr.loadAt 3 t151_1) (fun t152 => k_26 t152 w_74) w_74) (fun t152_1 w_75 => 
  gd t148 true (fun k_27 w_76 => pur Try.prog (binS .lss 3 false false t150_1 t152_1) fun t153 => k_27 t153 w_76) (fun t153_1 w_77 => 
  pur Try.prog (pickS t148 t153_1 (.bool false)) fun t154 => 
  condS t154
   (pur Try.prog (Builtin.min_ #[3, 3] 3 #[t143, v_keep]) fun t157 => 
   J_3 t157 w_77)
   (J_3 t143 w_77)) w_75) w_73) w_71) w_69) w_69)
 (fun v_mode w_78 => ∀ _j : Fr, 
  P5_4 t130 t132 t138 t20 t59 v_block v_mode v_n w_78 Q)) w_68) w_67) w_66) w_65) w_64) w_63) w_62) w_62) w_61) w_59
def P5_2 (t5 : Value) (t59 : Value) (v_block : Value) (v_keep : Value) (v_want : Value) (w_48 : World) (Q : Value → World → Prop) : Prop :=
 callS Try.prog 13 #[t59, v_want] (fun t89 w_52 => 
 pur Try.prog (Instr.extract t89 0) fun t90 => 
 pur Try.prog (Instr.extract t89 1) fun _ => 
 lp 3 (fun J_2 => fun v_n v_m v_k w_53 => ∀ _j : Fr, 
  pur Try.prog (binS .lss 3 false true v_k (.int .i64 40)) fun t93 => 
  gd t93 true (fun k_21 w_54 => k_21 v_m w_54) (fun t95_1 w_55 => 
  gd t93 true (fun k_22 w_56 => pur Try.prog (Builtin.len_ #[33] 3 #[t95_1]) fun t96 => k_22 t96 w_56) (fun t96_1 w_57 => 
  gd t93 true (fun k_23 w_58 => pur Try.prog (binS .eql 3 false true t96_1 (.int .i64 1)) fun t97 => k_23 t97 w_58) (fun t97_1 w_59 => 
  pur Try.prog (pickS t93 t97_1 (.bool false)) fun t98 => 
  condS t98
   (pur Try.prog (binS .add 3 false true v_n (.int .i64 1)) fun t102 => 
  pur Try.prog (Instr.indexAt 33 v_m (.int .i64 0)) fun t106 => 
  pur Try.prog (Instr.fieldAt 39 t106 1) fun t107 => 
  rd Try.prog (Instr.loadAt 3 t107) (fun t108 => 
  pur Try.prog (Instr.indexAt 33 v_m (.int .i64 0)) fun t110 => 
  pur Try.prog (Instr.fieldAt 39 t110 7) fun t111 => 
  rd Try.prog (Instr.loadAt 27 t111) (fun t112 => 
  pur Try.prog (Instr.build 39 #[(0, (.int .i64 6)), (1, t108), (5, (.int .u64 3)), (3, (.int .i64 1)), (7, t112)]) fun t113 => 
  callS Try.prog 15 #[t59, t113] (fun t114 w_60 => 
  pur Try.prog (Instr.extract t114 0) fun t115 => 
  pur Try.prog (Instr.extract t114 1) fun _ => 
  pur Try.prog (binS .add 3 false true v_k (.int .i64 1)) fun t100 => 
  J_2 t102 t115 t100 w_60) (World.drew w_59)) (World.drew w_59)) (World.drew w_59))
   (P5_3 t5 t59 v_block v_keep v_n v_want w_59 Q)) w_57) w_55) w_53) [(.int .i64 0), t90, (.int .i64 0)] w_52) w_48
def P5_1 (t5 : Value) (v_block : Value) (v_held : Value) (v_keep : Value) (w_38 : World) (Q : Value → World → Prop) : Prop :=
 callS Try.prog 11 #[(.int .i64 1)] (fun t59 w_40 => 
 rd Try.prog (binS .eql 29 false true t59 (.pointer none)) (fun t61 => 
 gd t61 false (fun k_18 w_41 => k_18 t59 w_41) (fun t63_1 w_42 => 
 gd t61 false (fun k_19 w_43 => callS Try.prog 12 #[t63_1, (.int .u64 3), (.int .i64 1)] (fun t64 w_44 => k_19 t64 w_44) w_43) (fun t64_1 w_45 => 
 gd t61 false (fun k_20 w_46 => pur Try.prog (Op.unary .not t64_1) fun t65 => k_20 t65 w_46) (fun t65_1 w_47 => 
 pur Try.prog (pickS t61 (.bool true) t65_1) fun t66 => 
 condS t66
  (Q (.bool false) w_47)
  (lp 2 (fun J => fun v_want v_i w_48 => ∀ _j : Fr, 
  pur Try.prog (Builtin.len_ #[27] 3 #[v_held]) fun t69 => 
  pur Try.prog (binS .lss 3 false false v_i t69) fun t70 => 
  condS t70
   (jn 1 (fun J_1 => 
   pur Try.prog (Instr.indexAt 27 v_held v_i) fun t75 => 
   pur Try.prog (Instr.fieldAt 25 t75 1) fun t76 => 
   rd Try.prog (Instr.loadAt 3 t76) (fun t77 => 
   pur Try.prog (binS .gtr 3 false true t77 (.int .i64 0)) fun t78 => 
   condS t78
    (pur Try.prog (Instr.indexAt 27 v_held v_i) fun t82 => 
    rd Try.prog (Instr.loadAt 25 t82) (fun t83 => 
    act Try.prog (Instr.buildSlice 27 1 #[(0, t83)]) (fun t84 w_49 => 
    act Try.prog (Builtin.append_ #[27, 27] 27 #[v_want, t84]) (fun t85 w_50 => 
    J_1 t85 w_50) w_49) w_48) w_48)
    (J_1 v_want w_48)) w_48)
  (fun v_want_1 w_51 => ∀ _j : Fr, 
   pur Try.prog (binS .add 3 false true v_i (.int .i64 1)) fun t72 => 
   J v_want_1 t72 w_51))
   (P5_2 t5 t59 v_block v_keep v_want w_48 Q)) [(.slice none 0 0), (.int .i64 0)] w_47)) w_45) w_42) w_40) w_40) w_38
def P5_0 (v_held v_s v_keep v_block : Value) (Q : Value → World → Prop) (w : World) : Prop :=
 act Try.prog (Instr.box 23 v_s) (fun t5 w_1 => 
 pur Try.prog (Builtin.len_ #[27] 3 #[v_held]) fun t26 => 
 pur Try.prog (binS .gtr 3 false true t26 (.int .i64 12)) fun t27 => 
 gd t27 false (fun k w_2 => k v_held w_2) (fun t29_1 w_3 => 
 gd t27 false (fun k_1 w_4 => callS Try.prog 9 #[t29_1] (fun t30 w_5 => k_1 t30 w_5) w_4) (fun t30_1 w_6 => 
 gd t27 false (fun k_2 w_7 => pur Try.prog (Op.unary .not t30_1) fun t31 => k_2 t31 w_7) (fun t31_1 w_8 => 
 pur Try.prog (pickS t27 (.bool true) t31_1) fun t32 => 
 gd t32 false (fun k_3 w_9 => pur Try.prog (Instr.fieldAt 23 t5 0) fun t34 => k_3 t34 w_9) (fun t34_1 w_10 => 
 gd t32 false (fun k_4 w_11 => rd Try.prog (Instr.loadAt 3 t34_1) (fun t35 => k_4 t35 w_11) w_11) (fun t35_1 w_12 => 
 gd t32 false (fun k_5 w_13 => pur Try.prog (binS .lss 3 false true t35_1 (.int .i64 0)) fun t36 => k_5 t36 w_13) (fun t36_1 w_14 => 
 pur Try.prog (pickS t32 (.bool true) t36_1) fun t37 => 
 gd t37 false (fun k_6 w_15 => pur Try.prog (Instr.fieldAt 23 t5 0) fun t39 => k_6 t39 w_15) (fun t39_1 w_16 => 
 gd t37 false (fun k_7 w_17 => rd Try.prog (Instr.loadAt 3 t39_1) (fun t40 => k_7 t40 w_17) w_17) (fun t40_1 w_18 => 
 gd t37 false (fun k_8 w_19 => pur Try.prog (Instr.fieldAt 23 t5 1) fun t41 => k_8 t41 w_19) (fun t41_1 w_20 => 
 gd t37 false (fun k_9 w_21 => rd Try.prog (Instr.loadAt 3 t41_1) (fun t42 => k_9 t42 w_21) w_21) (fun t42_1 w_22 => 
 gd t37 false (fun k_10 w_23 => pur Try.prog (binS .geq 3 false false t40_1 t42_1) fun t43 => k_10 t43 w_23) (fun t43_1 w_24 => 
 pur Try.prog (pickS t37 (.bool true) t43_1) fun t44 => 
 gd t44 false (fun k_11 w_25 => pur Try.prog (Instr.fieldAt 23 t5 1) fun t46 => k_11 t46 w_25) (fun t46_1 w_26 => 
 gd t44 false (fun k_12 w_27 => rd Try.prog (Instr.loadAt 3 t46_1) (fun t47 => k_12 t47 w_27) w_27) (fun t47_1 w_28 => 
 gd t44 false (fun k_13 w_29 => pur Try.prog (binS .gtr 3 false true t47_1 (.int .i64 4096)) fun t48 => k_13 t48 w_29) (fun t48_1 w_30 => 
 pur Try.prog (pickS t44 (.bool true) t48_1) fun t49 => 
 gd t49 false (fun k_14 w_31 => k_14 v_keep w_31) (fun t51_1 w_32 => 
 gd t49 false (fun k_15 w_33 => pur Try.prog (binS .lss 3 false true t51_1 (.int .i64 0)) fun t52 => k_15 t52 w_33) (fun t52_1 w_34 => 
 pur Try.prog (pickS t49 (.bool true) t52_1) fun t53 => 
 gd t53 false (fun k_16 w_35 => k_16 v_keep w_35) (fun t55_1 w_36 => 
 gd t53 false (fun k_17 w_37 => pur Try.prog (binS .gtr 3 false true t55_1 (.int .i64 1)) fun t56 => k_17 t56 w_37) (fun t56_1 w_38 => 
 pur Try.prog (pickS t53 (.bool true) t56_1) fun t57 => 
 condS t57
  (callS Try.prog 10 #[] (fun t58 w_39 => 
  Q t58 w_39) w_38)
  (P5_1 t5 v_block v_held v_keep w_38 Q)) w_36) w_34) w_32) w_30) w_28) w_26) w_24) w_22) w_20) w_18) w_16) w_14) w_12) w_10) w_8) w_6) w_3) w_1) w
theorem cut5 (v_held v_s v_keep v_block : Value) (Q : Value → World → Prop) (w : World) : S5 v_held v_s v_keep v_block Q w = P5_0 v_held v_s v_keep v_block Q w := rfl
-- P5_1 t5 v_block v_held v_keep w_38 Q
-- P5_2 t5 t59 v_block v_keep v_want w_48 Q
-- P5_3 t5 t59 v_block v_keep v_n v_want w_59 Q
-- P5_4 t130 t132 t138 t20 t59 v_block v_mode v_n w_78 Q
/-- Locks in a canonical list, each held in a greater mode, are all given, where nothing is used. -/
theorem chg_all {H : BF} {l : List (Pt Int)} (hc : Canon l) (hm : ∀ p ∈ l, isMd p.2) (hH : ∀ x m, valB l x = some m → ∃ h, H x = some h ∧ m < h) {V : BF} (hV : ∀ x, V x = none) :
    ∀ i, i ≤ l.length → (∀ x, (chgF V H (asLocks (l.take i))).2 x = valB (l.take i) x) ∧ ∀ x, (chgF V H (asLocks (l.take i))).1 x = match valB (l.take i) x with | some m => some m | none => H x
  | 0, _ => ⟨fun x => rfl, fun x => rfl⟩
  | i + 1, hi => by
    obtain ⟨ih2, ih1⟩ := chg_all hc hm hH hV i (by omega)
    have hlt : i < l.length := by omega
    have e : asLocks (l.take (i + 1)) = asLocks (l.take i) ++ [(l[i].1.1, l[i].1.2, l[i].2)] := by
      rw [List.take_add_one, List.getElem?_eq_getElem hlt, Option.toList_some]; unfold asLocks; rw [List.map_append]; rfl
    have hT := fun x => take_val hc.apart hlt x
    have hmi := hm _ (List.getElem_mem hlt)
    have hg : ∀ x, gives V (chgF V H (asLocks (l.take i))).1 (l[i].1.1, l[i].1.2, l[i].2) x = decide (hasB l[i].1 x) := fun x => by
      unfold gives usesOver
      rw [hV, decide_eq_true (show 0 ≤ l[i].2 ∧ l[i].2 ≤ 2 from hmi)]
      have e' : hasB (l[i].1.1, l[i].1.2) x ↔ hasB l[i].1 x := Iff.rfl
      by_cases hx : hasB l[i].1 x
      · obtain ⟨h, hh, hlth⟩ := hH x l[i].2 (valB_mem hc.apart (List.getElem_mem hlt) hx)
        rw [ih1, (hT x).2 hx]
        simp only [hh]
        rw [decide_eq_true (e'.2 hx), decide_eq_true hlth]; rfl
      · rw [decide_eq_false (fun h => hx (e'.1 h))]; simp
    rw [e]
    refine ⟨fun x => ?_, fun x => ?_⟩
    · rw [chgF_snoc]
      simp only [chgS, hg, decide_eq_true_eq]
      rw [(hT x).1, ih2]
    · rw [chgF_snoc]
      simp only [chgS, hg, decide_eq_true_eq]
      rw [(hT x).1]
      by_cases hx : hasB l[i].1 x
      · rw [if_pos hx, if_pos hx]
      · rw [if_neg hx, if_neg hx, ih1]
section
variable {w w' : World} {Q : Value → World → Prop} {B c : Nat} {s : CS}
/-- Does a map cover a block in a mode? -/
theorem has_one {H : BF} {x md : Int} (hmd : md = 1 ∨ md = 2) (hx : 0 ≤ x) : (∀ y, needF (askF [(x, x + 1, md)] y) (H y) = none) ↔ ∃ h, H x = some h ∧ isMd h ∧ md ≤ h := by
  have hok : ok (x, x + 1) := ⟨hx, by simp only; omega⟩
  have hI : ∀ y, hasB (x, x + 1) y ↔ y = x := fun y => ⟨fun h => by have := h.2.1; have := h.2.2; simp only at *; omega, fun h => by subst h; exact ⟨hok, Int.le_refl _, by simp only; omega⟩⟩
  have hmI : isMd md := by unfold isMd; omega
  constructor
  · intro h
    have := h x
    rw [ask_one hmd, val1, if_pos ((hI x).2 rfl)] at this
    cases hH : H x with
    | none => rw [hH, needF_none] at this; cases this
    | some v =>
      rw [hH, needF_some] at this
      split at this
      · rename_i hc; exact ⟨v, rfl, hc.1, hc.2.2⟩
      · cases this
  · rintro ⟨h, hh, h1, h2⟩ y
    rw [ask_one hmd, val1]
    by_cases hy : hasB (x, x + 1) y
    · rw [if_pos hy, (hI y).1 hy, hh, needF_some, if_pos ⟨h1, hmI, h2⟩]
    · rw [if_neg hy]; rfl
/-- The last checks. -/
theorem gives4 {c g20 : Nat} {s : CS} {block n md : Int} {gr : Bool} {lv t132 : Value} {no : Nat} {w2 : World} (h : CL w2 B c s) (hB : B ≤ siz w2) (hlo : s.lo = [])
    (bg : blk w2 g20 = some (.cells (if gr then msgC 9 0 0 1 n 3 0 lv else msgC 0 0 0 0 0 0 0 (.slice none 0 0)) 39)) (ht : ∃ a c, t132 = .slice a no c) (hgr : gr = decide (0 < no))
    (hmd : 0 ≤ block → block < 4096 → ((md = 2) ↔ ∃ h, valB s.lh block = some h ∧ isMd h ∧ 2 ≤ h) ∧ ((1 ≤ md) ↔ ∃ h, valB s.lh block = some h ∧ isMd h ∧ 1 ≤ h))
    (hblk : -9223372036854775808 ≤ block ∧ block ≤ 9223372036854775807)
    (hq : ∀ w', KO B cp w2 w' → Q (.bool true) w') :
    P5_4 (.bool true) t132 (.bool gr) (.pointer (some ⟨g20, 0, none⟩)) (.pointer (some ⟨c, 0, none⟩)) (.int .i64 block) (.int .i64 md) (.int .i64 n) w2 Q := by
  unfold P5_4
  obtain ⟨pa, ca, rfl⟩ := ht
  simp only [stp, Nat.reduceAdd, Int.reduceLT, Int.reduceLE, Int.reduceEq, Int.reduceNe, ne_eq, bne_self_eq_false, beq_self_eq_true, stm]
  have k3 : K0 w2 (w2.alloc (.cells #[.int .i64 block, .int .i64 (IntKind.i64.wrap (block + 1))] 23)) := (K0.refl w2).alloc _
  have b3 : blk (w2.alloc (.cells #[.int .i64 block, .int .i64 (IntKind.i64.wrap (block + 1))] 23)) (siz w2) = some (.cells #[.int .i64 block, .int .i64 (IntKind.i64.wrap (block + 1))] 23) := blk_alloc_new
  generalize w2.alloc (.cells #[.int .i64 block, .int .i64 (IntKind.i64.wrap (block + 1))] 23) = w3 at k3 b3
  have h3 := h.keep0 k3
  have bg3 := k3.blk bg id
  -- behind the checks of the message
  have rest : ∀ {k : Value → World → Prop}, (∀ w' v, (∃ a c, v = Value.slice a 0 c) → K0 w3 w' → k v w') → callS Try.prog 19 #[.pointer (some ⟨c, 0, none⟩)] k w3 := fun {k} hk => by
    refine cowed_c h3 fun w4 v4 e4 l4 hc4 hd4 hv4 o4 k4 => ?_
    have hl4 : l4 = [] := canon_unique _ _ hc4 Canon.nil fun x => by
      rw [hv4]; unfold owedB; rw [hlo]; rfl
    subst hl4
    obtain ⟨p4, c4, rfl⟩ := o4.form
    exact hk _ _ ⟨p4, c4, rfl⟩ k4
  cases gr with
  | true =>
    have hno : (0 : Int) < (no : Int) := by
      have := of_decide_eq_true hgr.symm
      omega
    simp only [if_true] at bg3
    unfold msgC at bg3
    obtain ⟨z0, z1, z2, z3, z4, z5, z6, z7⟩ := msg_cells bg3
    simp only [stp, Nat.reduceAdd, Int.reduceLT, Int.reduceLE, Int.reduceEq, Int.reduceNe, ne_eq, bne_self_eq_false, beq_self_eq_true, stm, hno, z0, z4, z5]
    refine rest fun w4 v4 hv4 k4 => ?_
    obtain ⟨p4, c4, rfl⟩ := hv4
    have k24 := k3.trans k4
    have b4 := k4.blk b3 id
    have h4 := h.keep0 k24
    have off : callS Try.prog 10 #[] (fun t w' => Q t w') w4 := alive_c fun w' k => hq _ (KO.of0 (k24.trans k.old'))
    simp only [stp, Nat.reduceAdd, Int.reduceLT, Int.reduceLE, Int.reduceEq, Int.reduceNe, ne_eq, bne_self_eq_false, beq_self_eq_true, cst0]
    by_cases h0 : block < 0
    · simp only [stp, Nat.reduceAdd, Int.reduceLT, Int.reduceLE, Int.reduceEq, Int.reduceNe, ne_eq, bne_self_eq_false, beq_self_eq_true, h0]
      exact off
    by_cases h1 : 4096 ≤ block
    · simp only [stp, Nat.reduceAdd, Int.reduceLT, Int.reduceLE, Int.reduceEq, Int.reduceNe, ne_eq, bne_self_eq_false, beq_self_eq_true, h0, h1]
      exact off
    simp only [stp, Nat.reduceAdd, Int.reduceLT, Int.reduceLE, Int.reduceEq, Int.reduceNe, ne_eq, bne_self_eq_false, beq_self_eq_true, h0, h1]
    obtain ⟨hm2, hm1⟩ := hmd (by omega) (by omega)
    have hw1 : IntKind.i64.wrap (block + 1) = block + 1 := wrap_id (by omega) (by omega)
    rw [hw1] at b4
    refine alive_c fun w5 k5' => ?_
    have k5 := k5'.old'
    have h5 := h4.keep0 k5
    have b5 := k5.blk b4 id
    have s0 : cel w5 (siz w2) 0 = some (.int .i64 block) := by rw [cel_b b5]; rfl
    have s1 : cel w5 (siz w2) 1 = some (.int .i64 (block + 1)) := by rw [cel_b b5]; rfl
    simp only [stp, Nat.reduceAdd, Int.reduceLT, Int.reduceLE, Int.reduceEq, Int.reduceNe, ne_eq, bne_self_eq_false, beq_self_eq_true, stm, s0, s1]
    have k6 : K0 w5 (w5.alloc (.cells #[.int .i64 block, .int .i64 (block + 1), .int .i64 2] 25)) := (K0.refl w5).alloc _
    have r6 := rd_lock1 (w := w5) (x := block) (y := block + 1) (z := 2)
    generalize w5.alloc (.cells #[.int .i64 block, .int .i64 (block + 1), .int .i64 2] 25) = w6 at k6 r6
    refine chas_c (h5.keep0 k6) r6 (by simp) fun w7 r7 hr7 k7 => ?_
    have e7 : r7 = decide (md = 2) := by
      have := hr7.trans ((has_one (.inr rfl) (by omega)).trans hm2.symm)
      cases r7 <;> simp_all
    subst e7
    have k57 := k6.trans k7
    have h7 := h5.keep0 k57
    have b7 := k57.blk b5 id
    have s0 : cel w7 (siz w2) 0 = some (.int .i64 block) := by rw [cel_b b7]; rfl
    have s1 : cel w7 (siz w2) 1 = some (.int .i64 (block + 1)) := by rw [cel_b b7]; rfl
    simp only [stp, Nat.reduceAdd, Int.reduceLT, Int.reduceLE, Int.reduceEq, Int.reduceNe, ne_eq, bne_self_eq_false, beq_self_eq_true, stm, s0, s1]
    have k8 : K0 w7 (w7.alloc (.cells #[.int .i64 block, .int .i64 (block + 1), .int .i64 1] 25)) := (K0.refl w7).alloc _
    have r8 := rd_lock1 (w := w7) (x := block) (y := block + 1) (z := 1)
    generalize w7.alloc (.cells #[.int .i64 block, .int .i64 (block + 1), .int .i64 1] 25) = w8 at k8 r8
    refine chas_c (h7.keep0 k8) r8 (by simp) fun w9 r9 hr9 k9 => ?_
    have e9 : r9 = decide (1 ≤ md) := by
      have := hr9.trans ((has_one (.inl rfl) (by omega)).trans hm1.symm)
      cases r9 <;> simp_all
    subst e9
    simp only [stp, Nat.reduceAdd, Int.reduceLT, Int.reduceLE, Int.reduceEq, Int.reduceNe, ne_eq, bne_self_eq_false, beq_self_eq_true, stm]
    exact hq _ (KO.of0 ((k24.trans k5).trans (k57.trans (k8.trans k9))))
  | false =>
    have hno : ¬ (0 : Int) < (no : Int) := by
      have := of_decide_eq_false hgr.symm
      omega
    simp only [stp, Nat.reduceAdd, Int.reduceLT, Int.reduceLE, Int.reduceEq, Int.reduceNe, ne_eq, bne_self_eq_false, beq_self_eq_true, stm, hno]
    refine rest fun w4 v4 hv4 k4 => ?_
    obtain ⟨p4, c4, rfl⟩ := hv4
    have k24 := k3.trans k4
    have b4 := k4.blk b3 id
    have h4 := h.keep0 k24
    have off : callS Try.prog 10 #[] (fun t w' => Q t w') w4 := alive_c fun w' k => hq _ (KO.of0 (k24.trans k.old'))
    simp only [stp, Nat.reduceAdd, Int.reduceLT, Int.reduceLE, Int.reduceEq, Int.reduceNe, ne_eq, bne_self_eq_false, beq_self_eq_true, cst0]
    by_cases h0 : block < 0
    · simp only [stp, Nat.reduceAdd, Int.reduceLT, Int.reduceLE, Int.reduceEq, Int.reduceNe, ne_eq, bne_self_eq_false, beq_self_eq_true, h0]
      exact off
    by_cases h1 : 4096 ≤ block
    · simp only [stp, Nat.reduceAdd, Int.reduceLT, Int.reduceLE, Int.reduceEq, Int.reduceNe, ne_eq, bne_self_eq_false, beq_self_eq_true, h0, h1]
      exact off
    simp only [stp, Nat.reduceAdd, Int.reduceLT, Int.reduceLE, Int.reduceEq, Int.reduceNe, ne_eq, bne_self_eq_false, beq_self_eq_true, h0, h1]
    obtain ⟨hm2, hm1⟩ := hmd (by omega) (by omega)
    have hw1 : IntKind.i64.wrap (block + 1) = block + 1 := wrap_id (by omega) (by omega)
    rw [hw1] at b4
    refine alive_c fun w5 k5' => ?_
    have k5 := k5'.old'
    have h5 := h4.keep0 k5
    have b5 := k5.blk b4 id
    have s0 : cel w5 (siz w2) 0 = some (.int .i64 block) := by rw [cel_b b5]; rfl
    have s1 : cel w5 (siz w2) 1 = some (.int .i64 (block + 1)) := by rw [cel_b b5]; rfl
    simp only [stp, Nat.reduceAdd, Int.reduceLT, Int.reduceLE, Int.reduceEq, Int.reduceNe, ne_eq, bne_self_eq_false, beq_self_eq_true, stm, s0, s1]
    have k6 : K0 w5 (w5.alloc (.cells #[.int .i64 block, .int .i64 (block + 1), .int .i64 2] 25)) := (K0.refl w5).alloc _
    have r6 := rd_lock1 (w := w5) (x := block) (y := block + 1) (z := 2)
    generalize w5.alloc (.cells #[.int .i64 block, .int .i64 (block + 1), .int .i64 2] 25) = w6 at k6 r6
    refine chas_c (h5.keep0 k6) r6 (by simp) fun w7 r7 hr7 k7 => ?_
    have e7 : r7 = decide (md = 2) := by
      have := hr7.trans ((has_one (.inr rfl) (by omega)).trans hm2.symm)
      cases r7 <;> simp_all
    subst e7
    have k57 := k6.trans k7
    have h7 := h5.keep0 k57
    have b7 := k57.blk b5 id
    have s0 : cel w7 (siz w2) 0 = some (.int .i64 block) := by rw [cel_b b7]; rfl
    have s1 : cel w7 (siz w2) 1 = some (.int .i64 (block + 1)) := by rw [cel_b b7]; rfl
    simp only [stp, Nat.reduceAdd, Int.reduceLT, Int.reduceLE, Int.reduceEq, Int.reduceNe, ne_eq, bne_self_eq_false, beq_self_eq_true, stm, s0, s1]
    have k8 : K0 w7 (w7.alloc (.cells #[.int .i64 block, .int .i64 (block + 1), .int .i64 1] 25)) := (K0.refl w7).alloc _
    have r8 := rd_lock1 (w := w7) (x := block) (y := block + 1) (z := 1)
    generalize w7.alloc (.cells #[.int .i64 block, .int .i64 (block + 1), .int .i64 1] 25) = w8 at k8 r8
    refine chas_c (h7.keep0 k8) r8 (by simp) fun w9 r9 hr9 k9 => ?_
    have e9 : r9 = decide (1 ≤ md) := by
      have := hr9.trans ((has_one (.inl rfl) (by omega)).trans hm1.symm)
      cases r9 <;> simp_all
    subst e9
    simp only [stp, Nat.reduceAdd, Int.reduceLT, Int.reduceLE, Int.reduceEq, Int.reduceNe, ne_eq, bne_self_eq_false, beq_self_eq_true, stm]
    exact hq _ (KO.of0 ((k24.trans k5).trans (k57.trans (k8.trans k9))))
/-- What is owed of N where all of (a, b) is revoked down to a mode. -/
def obF (N : List (Pt Int)) (a b keep : Int) (x : Int) : Option Int := if hasB (a, b) x then (match valB N x with | some h => if keep < h then some keep else none | none => none) else none
theorem ob_some {N : List (Pt Int)} {a b keep x m : Int} (h : obF N a b keep x = some m) : m = keep ∧ ∃ v, valB N x = some v ∧ keep < v := by
  unfold obF at h
  split at h
  · cases hv : valB N x with
    | none => rw [hv] at h; cases h
    | some v =>
      rw [hv] at h
      simp only at h
      split at h
      · rename_i hk; injection h with h; exact ⟨h.symm, v, rfl, hk⟩
      · cases h
  · cases h
theorem gives_val {N : List (Pt Int)} (hm : okM N) {a b keep x md : Int} (hok : ok (a, b)) (hk : keep = 0 ∨ keep = 1) (hmd : md = if a ≤ x ∧ x < b then min ((valB N x).getD 0) keep else (valB N x).getD 0) {H : Option Int}
    (hH : H = match obF N a b keep x with | none => valB N x | some m => keepF (valB N x) m) : ((md = 2) ↔ ∃ h, H = some h ∧ isMd h ∧ 2 ≤ h) ∧ ((1 ≤ md) ↔ ∃ h, H = some h ∧ isMd h ∧ 1 ≤ h) := by
  subst hH hmd
  have e : hasB (a, b) x ↔ a ≤ x ∧ x < b := ⟨fun h => h.2, fun h => ⟨hok, h⟩⟩
  unfold obF keepF isMd
  cases hv : valB N x with
  | none => simp; split <;> omega
  | some v =>
    obtain ⟨p, hp, _, rfl⟩ := valB_some hv
    have h12 := hm p hp
    by_cases hx : a ≤ x ∧ x < b
    · simp only [e, if_pos hx, Option.getD_some]
      rcases h12 with h1 | h1 <;> rcases hk with h2 | h2 <;> subst h2 <;> rw [h1] <;> simp <;> omega
    · simp only [e, if_neg hx, Option.getD_some]
      rcases h12 with h1 | h1 <;> rw [h1] <;> simp
theorem gives3 {c g5 : Nat} {s : CS} {N : List (Pt Int)} {W : List I3} {vw : Value} {a b keep block : Int} {n : Nat} {w2 : World} (h : CL w2 B c s) (hB : B ≤ siz w2) (b5 : blk w2 g5 = some (.cells #[.int .i64 a, .int .i64 b] 23)) (e5 : s.epoch = 3) (e1 : s.gen = 1) (eo : s.lo = []) (eg : s.grants = n)
    (eh : s.lh = N) (hcN : Canon N) (hmN : okM N) (hNl : N.length ≤ 24) (rW : TRd w2 B 25 3 vw W.length (flat enc3 W)) (hWl : W.length ≤ 12) (hvN : ∀ x, valB N x = askF W x) (hok : ok (a, b)) (hb4 : b ≤ 4096) (hk : keep = 0 ∨ keep = 1)
    (hblk : -9223372036854775808 ≤ block ∧ block ≤ 9223372036854775807) (hq : ∀ w', KO B cp w2 w' → Q (.bool true) w') :
    P5_3 (.pointer (some ⟨g5, 0, none⟩)) (.pointer (some ⟨c, 0, none⟩)) (.int .i64 block) (.int .i64 keep) (.int .i64 (n : Int)) vw w2 Q := by
  unfold P5_3
  refine cunuse_c h hB fun w3 h3 k3 => ?_
  generalize hs3 : ({ s with lu := [], lw := [] } : CS) = s3 at h3
  have f5 : s3.epoch = 3 := by rw [← hs3]; exact e5
  have f1 : s3.gen = 1 := by rw [← hs3]; exact e1
  have fh : s3.lh = N := by rw [← hs3]; exact eh
  have fu : s3.lu = [] := by rw [← hs3]
  have fo : s3.lo = [] := by rw [← hs3]; exact eo
  have fw : s3.lw = [] := by rw [← hs3]
  have fg : s3.grants = n := by rw [← hs3]; exact eg
  clear hs3
  try simp only [stp, Nat.reduceAdd, Int.reduceLT, Int.reduceLE, Int.reduceEq, Int.reduceNe, ne_eq, bne_self_eq_false, beq_self_eq_true]
  refine rnorm_c (rW.ko k3 fun cs => rfl).1 (by omega) fun w4 v4 l4 o4 hc4 hv4 hl4 k4 => ?_
  have hl4' : l4 = N := canon_unique _ _ hc4 hcN fun x => by rw [hv4, hvN]
  subst hl4'
  have kk4 := k3.trans (KO.of0 k4)
  have h4 := h3.keep0 k4
  have b4 := kk4.blk b5 rfl
  have s0 : cel w4 g5 0 = some (.int .i64 a) := by rw [cel_b b4]; rfl
  have s1 : cel w4 g5 1 = some (.int .i64 b) := by rw [cel_b b4]; rfl
  simp only [stp, Nat.reduceAdd, Int.reduceLT, Int.reduceLE, Int.reduceEq, Int.reduceNe, ne_eq, bne_self_eq_false, beq_self_eq_true, stm, s0, s1]
  have k5 : K0 w4 (w4.alloc (.cells #[.int .i64 a, .int .i64 b, .int .i64 keep] 25)) := (K0.refl w4).alloc _
  have hb5 : blk (w4.alloc (.cells #[.int .i64 a, .int .i64 b, .int .i64 keep] 25)) (siz w4) = some (.cells #[.int .i64 a, .int .i64 b, .int .i64 keep] 25) := blk_alloc_new
  generalize w4.alloc (.cells #[.int .i64 a, .int .i64 b, .int .i64 keep] 25) = w5 at k5 hb5
  have h5 := h4.keep0 k5
  have kk5 := kk4.trans (KO.of0 k5)
  refine ctake_e h5 f5.symm (Nat.le_trans hB kk5.size) (by rw [f5]; decide) (by rw [f1]; decide) one_slice (.inr (.inr (.inl ⟨rfl, rfl⟩))) fun w6 k6 => ?_
  have h6 := h5.keep0 k6
  have kk6 := kk5.trans (KO.of0 k6)
  have hgb : ∀ g, (Value.slice (some ⟨siz w4, 0, none⟩) 1 1).ownBlock = some g → g < B ∨ ∃ cs, blk w6 g = some (.cells cs 25) := fun g hg => by
    injection hg with hg
    have hg : siz w4 = g := hg
    subst hg
    exact .inr ⟨_, k6.blk hb5 id⟩
  refine crevoke_c h6 (Nat.le_trans hB kk6.size) one_slice ((rd_lock1' hb5).keep0 k6) hgb (by simp) (by intro k hk'; simp at hk'; subst hk'; exact hb4) fun w7 v7 lo hlo h7 k7 => ?_
  have hlo' : ∀ x, valB lo x = obF l4 a b keep x := fun x => by
    rw [hlo, fo, fh]
    unfold overX obF
    rw [show goneF [(a, b, keep)] x = if hasB (a, b) x then some keep else none from rfl]
    by_cases hx : hasB (a, b) x
    · simp only [if_pos hx]
      unfold oweX oF
      cases hv : valB l4 x with
      | none => rfl
      | some v => by_cases hkv : keep < v <;> simp [hkv, valB]
    · simp only [if_neg hx]; rfl
  generalize hs7 : ({ s3 with lo := lo } : CS) = s7 at h7
  have m5 : s7.epoch = 3 := by rw [← hs7]; exact f5
  have m1 : s7.gen = 1 := by rw [← hs7]; exact f1
  have mh : s7.lh = l4 := by rw [← hs7]; exact fh
  have mu : s7.lu = [] := by rw [← hs7]; exact fu
  have mo : ∀ x, valB s7.lo x = obF l4 a b keep x := by rw [← hs7]; exact hlo'
  have mw : s7.lw = [] := by rw [← hs7]; exact fw
  have mg : s7.grants = n := by rw [← hs7]; exact fg
  clear hs7
  have kk7 := kk6.trans k7
  have hV : ∀ e x, raiseB (valB s7.lu) (cutB e (valB s7.lw)) x = none := fun e x => by
    rw [mu, mw]
    unfold raiseB cutB
    by_cases he : x < e
    · simp only [if_pos he]; rfl
    · simp only [if_neg he]; rfl
  try simp only [stp, Nat.reduceAdd, Int.reduceLT, Int.reduceLE, Int.reduceEq, Int.reduceNe, ne_eq, bne_self_eq_false, beq_self_eq_true]
  refine cowed_c h7 fun w8 v8 e8 l8 hc8 hd8 hv8 o8 k8 => ?_
  have hv8' : ∀ x, valB l8 x = obF l4 a b keep x := fun x => by
    rw [hv8]
    unfold owedB
    rw [mo, mh, hV]
    cases ho : obF l4 a b keep x with
    | none => rfl
    | some m =>
      obtain ⟨rfl, v, hv, hlt⟩ := ob_some ho
      rw [hv]
      simp only [if_pos hlt]
  have h8 := h7.keep0 k8
  have kk8 := kk7.trans (KO.of0 k8)
  have hl8 : l8.length ≤ 200 := by
    have := chg_len hc8 (chg_two (fun (u : Option Int) (n : Option Int) => match u with | none => none | some _ => (match n with | some h => if keep < h then some keep else none | none => none)) (f := valB [(((a, b), keep) : Pt Int)]) (g := valB l4) chg_canon chg_canon fun x => by
      rw [hv8', val1]
      unfold obF
      by_cases hx : hasB (a, b) x
      · simp only [if_pos hx]
      · simp only [if_neg hx])
    rw [List.length_append, flat2_len, flat2_len] at this
    simp only [List.length_cons, List.length_nil] at this
    omega
  obtain ⟨p8, c8, rfl⟩ := o8.form
  have o8' : TRd w8 B 25 3 (.slice p8 (asLocks l8).length c8) (asLocks l8).length (flat enc3 (asLocks l8)) := o8.trd (by have := kk7.size; omega)
  have hchg : ∀ e x, (chgF (raiseB (valB s7.lu) (cutB e (valB s7.lw))) (valB s7.lh) (asLocks l8)).2 x = valB l8 x := fun e x => by
    have := (chg_all (H := valB s7.lh) (l := l8) hc8 (fun p hp => by
      have hop := hc8.1 p hp
      have := valB_mem hc8.apart hp ⟨hop, Int.le_refl _, hop.2⟩
      rw [hv8'] at this
      have := (ob_some this).1
      unfold isMd; omega) (fun x m hx => by
        rw [hv8'] at hx
        obtain ⟨rfl, v, hv, hlt⟩ := ob_some hx
        exact ⟨v, by rw [mh]; exact hv, hlt⟩) (V := raiseB (valB s7.lu) (cutB e (valB s7.lw))) (hV e) l8.length (Nat.le_refl _)).1 x
    rw [List.take_length] at this
    exact this
  try simp only [stp, Nat.reduceAdd, Int.reduceLT, Int.reduceLE, Int.reduceEq, Int.reduceNe, ne_eq, bne_self_eq_false, beq_self_eq_true]
  refine cgive_c (L := asLocks l8) h8 (Nat.le_trans hB kk8.size) o8'.1 (by rw [asLocks_len]; omega) (fun k hk' => by
    obtain ⟨p, hp, rfl⟩ := List.mem_map.1 hk'
    exact hd8 p hp) (fun w9 e9 hn9 h9 k9 => ?_) (fun w9 e9 l9 lv9 lh9 lo9 hc9 hd9 hv9 hl9 hlh9 hlo9 t9 h9 k9 => ?_)
  · have hl80 : l8 = [] := canon_unique _ _ hc8 Canon.nil fun x => by rw [← hchg e9 x, hn9]; rfl
    have hob : ∀ x, obF l4 a b keep x = none := fun x => by rw [← hv8', hl80]; rfl
    unfold msgC
    simp only [stp, Nat.reduceAdd, Int.reduceLT, Int.reduceLE, Int.reduceEq, Int.reduceNe, ne_eq, bne_self_eq_false, beq_self_eq_true, stm]
    have k10 := (K0.refl w9).alloc (.cells #[.int .i64 0, .int .i64 0, .int .i64 0, .int .i64 0, .int .i64 0, .int .u64 0, .int .i64 0, .slice none 0 0] 39)
    have b10 : blk (w9.alloc (.cells #[.int .i64 0, .int .i64 0, .int .i64 0, .int .i64 0, .int .i64 0, .int .u64 0, .int .i64 0, .slice none 0 0] 39)) (siz w9) = some (.cells #[.int .i64 0, .int .i64 0, .int .i64 0, .int .i64 0, .int .i64 0, .int .u64 0, .int .i64 0, .slice none 0 0] 39) := blk_alloc_new
    generalize w9.alloc (.cells #[.int .i64 0, .int .i64 0, .int .i64 0, .int .i64 0, .int .i64 0, .int .u64 0, .int .i64 0, .slice none 0 0] 39) = w10 at k10 b10
    have kk10 := kk8.trans (k9.trans (KO.of0 k10))
    have o10 : RM w10 (siz w3) v4 l4 := ((((KO.of0 (B := B) (p := cp) (k5.trans k6)).trans k7).trans ((KO.of0 k8).trans (k9.trans (KO.of0 k10)))).own o4 fun cs => rfl)
    refine rget_c o10 hc4 (by omega) fun w11 k11 => ?_
    have h11 := (h9.keep0 k10).keep0 k11
    have kk11 := kk10.trans (KO.of0 k11)
    have b11 := k11.blk b10 id
    have b5' := kk11.blk b5 rfl
    have s0 : cel w11 g5 0 = some (.int .i64 a) := by rw [cel_b b5']; rfl
    have s1 : cel w11 g5 1 = some (.int .i64 b) := by rw [cel_b b5']; rfl
    try simp only [stp, Nat.reduceAdd, Int.reduceLT, Int.reduceLE, Int.reduceEq, Int.reduceNe, ne_eq, bne_self_eq_false, beq_self_eq_true]
    refine jn1 (fun (x : Value) (w' : World) => w' = w11 ∧ x = .int .i64 (if a ≤ block ∧ block < b then min ((valB l4 block).getD 0) keep else (valB l4 block).getD 0)) (fun J hJ => ?_) ?_
    · by_cases h0 : a ≤ block
      · by_cases h1 : block < b
        · simp only [stp, Nat.reduceAdd, Int.reduceLT, Int.reduceLE, Int.reduceEq, Int.reduceNe, ne_eq, bne_self_eq_false, beq_self_eq_true, stm, s0, s1, h0, h1]
          exact hJ _ _ ⟨rfl, by rw [if_pos ⟨h0, h1⟩]⟩
        · simp only [stp, Nat.reduceAdd, Int.reduceLT, Int.reduceLE, Int.reduceEq, Int.reduceNe, ne_eq, bne_self_eq_false, beq_self_eq_true, stm, s0, s1, h0, h1]
          exact hJ _ _ ⟨rfl, by rw [if_neg fun h => h1 h.2]⟩
      · simp only [stp, Nat.reduceAdd, Int.reduceLT, Int.reduceLE, Int.reduceEq, Int.reduceNe, ne_eq, bne_self_eq_false, beq_self_eq_true, stm, s0, h0]
        exact hJ _ _ ⟨rfl, by rw [if_neg fun h => h0 h.1]⟩
    · rintro x _ ⟨rfl, rfl⟩ _j
      have hlo0 : s7.lo = [] := canon_unique _ _ h11.canonO Canon.nil fun x => by rw [mo, hob]; rfl
      refine gives4 (gr := false) (lv := .slice none 0 0) h11 (Nat.le_trans hB kk11.size) hlo0 b11 ⟨p8, c8, rfl⟩ (by rw [hl80]; rfl) (fun _ _ => gives_val (N := l4) hmN hok hk rfl (by rw [hob, mh])) hblk fun w' k => hq w' (kk11.trans k)
  · have hl9' : l9 = l8 := canon_unique _ _ hc9 hc8 fun x => by rw [hv9, hchg]
    subst hl9'
    have hT : l9.take 200 = l9 := List.take_of_length_le hl8
    rw [hT] at hl9 hlh9 hlo9 t9
    obtain ⟨p9, c9, rfl⟩ := t9.1.form
    rw [m1, mg, m5]
    unfold msgC
    simp only [stp, Nat.reduceAdd, Int.reduceLT, Int.reduceLE, Int.reduceEq, Int.reduceNe, ne_eq, bne_self_eq_false, beq_self_eq_true, stm]
    have k10 := (K0.refl w9).alloc (.cells #[.int .i64 9, .int .i64 0, .int .i64 0, .int .i64 1, .int .i64 (n : Int), .int .u64 3, .int .i64 0, .slice p9 l9.length c9] 39)
    have b10 : blk (w9.alloc (.cells #[.int .i64 9, .int .i64 0, .int .i64 0, .int .i64 1, .int .i64 (n : Int), .int .u64 3, .int .i64 0, .slice p9 l9.length c9] 39)) (siz w9) = some (.cells #[.int .i64 9, .int .i64 0, .int .i64 0, .int .i64 1, .int .i64 (n : Int), .int .u64 3, .int .i64 0, .slice p9 l9.length c9] 39) := blk_alloc_new
    generalize w9.alloc (.cells #[.int .i64 9, .int .i64 0, .int .i64 0, .int .i64 1, .int .i64 (n : Int), .int .u64 3, .int .i64 0, .slice p9 l9.length c9] 39) = w10 at k10 b10
    have kk10 := kk8.trans (k9.trans (KO.of0 k10))
    have o10 : RM w10 (siz w3) v4 l4 := ((((KO.of0 (B := B) (p := cp) (k5.trans k6)).trans k7).trans ((KO.of0 k8).trans (k9.trans (KO.of0 k10)))).own o4 fun cs => rfl)
    refine rget_c o10 hc4 (by omega) fun w11 k11 => ?_
    have h11 := (h9.keep0 k10).keep0 k11
    have kk11 := kk10.trans (KO.of0 k11)
    have b11 := k11.blk b10 id
    have b5' := kk11.blk b5 rfl
    have s0 : cel w11 g5 0 = some (.int .i64 a) := by rw [cel_b b5']; rfl
    have s1 : cel w11 g5 1 = some (.int .i64 b) := by rw [cel_b b5']; rfl
    try simp only [stp, Nat.reduceAdd, Int.reduceLT, Int.reduceLE, Int.reduceEq, Int.reduceNe, ne_eq, bne_self_eq_false, beq_self_eq_true]
    refine jn1 (fun (x : Value) (w' : World) => w' = w11 ∧ x = .int .i64 (if a ≤ block ∧ block < b then min ((valB l4 block).getD 0) keep else (valB l4 block).getD 0)) (fun J hJ => ?_) ?_
    · by_cases h0 : a ≤ block
      · by_cases h1 : block < b
        · simp only [stp, Nat.reduceAdd, Int.reduceLT, Int.reduceLE, Int.reduceEq, Int.reduceNe, ne_eq, bne_self_eq_false, beq_self_eq_true, stm, s0, s1, h0, h1]
          exact hJ _ _ ⟨rfl, by rw [if_pos ⟨h0, h1⟩]⟩
        · simp only [stp, Nat.reduceAdd, Int.reduceLT, Int.reduceLE, Int.reduceEq, Int.reduceNe, ne_eq, bne_self_eq_false, beq_self_eq_true, stm, s0, s1, h0, h1]
          exact hJ _ _ ⟨rfl, by rw [if_neg fun h => h1 h.2]⟩
      · simp only [stp, Nat.reduceAdd, Int.reduceLT, Int.reduceLE, Int.reduceEq, Int.reduceNe, ne_eq, bne_self_eq_false, beq_self_eq_true, stm, s0, h0]
        exact hJ _ _ ⟨rfl, by rw [if_neg fun h => h0 h.1]⟩
    · rintro x _ ⟨rfl, rfl⟩ _j
      have hlo0 : lo9 = [] := canon_unique _ _ h11.canonO Canon.nil fun x => by
        show valB lo9 x = none
        rw [hlo9]
        unfold overB outF
        rw [hv8', mo]
        cases obF l4 a b keep x <;> rfl
      refine gives4 (gr := true) (lv := .slice p9 l9.length c9) h11 (Nat.le_trans hB kk11.size) hlo0 b11 ⟨p8, c8, rfl⟩ (by rw [asLocks_len]; exact (decide_eq_true hl9).symm) (fun _ _ => gives_val (N := l4) hmN hok hk rfl ?_) hblk fun w' k => hq w' (kk11.trans k)
      show valB lh9 block = _
      rw [hlh9]
      unfold overB
      rw [hv8', mh]
      cases obF l4 a b keep block <;> rfl
theorem gives2 {c g5 : Nat} {s : CS} {W : List I3} {vw : Value} {a b keep block : Int} {w2 : World} (h : CL w2 B c s) (hB : B ≤ siz w2) (b5 : blk w2 g5 = some (.cells #[.int .i64 a, .int .i64 b] 23)) (e5 : s.epoch = 3) (e1 : s.gen = 1) (eh : s.lh = []) (eu : s.lu = []) (eo : s.lo = []) (eid : s.id = 0) (eout : s.out = false) (egr : s.grants = 0)
    (rW : TRd w2 B 25 3 vw W.length (flat enc3 W)) (hWl : W.length ≤ 12) (hd : ∀ k ∈ W, k.2.1 ≤ 4096) (hok : ok (a, b)) (hb4 : b ≤ 4096) (hk : keep = 0 ∨ keep = 1)
    (hblk : -9223372036854775808 ≤ block ∧ block ≤ 9223372036854775807) (hq : ∀ w', KO B cp w2 w' → Q (.bool true) w') :
    P5_2 (.pointer (some ⟨g5, 0, none⟩)) (.pointer (some ⟨c, 0, none⟩)) (.int .i64 block) (.int .i64 keep) vw w2 Q := by
  unfold P5_2
  refine first_c h hB e5 e1 eh eu eo eid eout egr rW.1 (by omega) hd fun w5 s5 N v R5 hvN hlN k5 => ?_
  simp only [stp, Nat.reduceAdd, Int.reduceLT, Int.reduceLE, Int.reduceEq, Int.reduceNe, ne_eq, bne_self_eq_false, beq_self_eq_true]
  refine lp3 (fun m n x z w' => ∃ (k : Nat) (s : CS), z = .int .i64 (k : Int) ∧ n = .int .i64 (k : Int) ∧ m = N.length - k ∧ k ≤ N.length ∧ Rnd w' B c s N k x ∧ KO B cp w2 w') N.length ⟨0, s5, rfl, rfl, by omega, Nat.zero_le _, R5, k5⟩ ?_
  rintro m n x z w6 ⟨k, s6, rfl, rfl, rfl, hkN, R6, kk6⟩ J hJ _j
  have h24 : N.length ≤ 24 := by omega
  have hk40 : ((k : Int) < 40) := by omega
  rcases R6.v with ⟨hk', g, lv, ho, hid, rfl, bg, tl⟩ | ⟨hk', rfl, hid⟩
  · obtain ⟨x0, x1, x2, x3, x4, x5, x6, x7⟩ := msg_cells bg
    have hwk := wrap_succ (i := k) (by omega)
    simp only [stp, Nat.reduceAdd, Int.reduceLT, Int.reduceLE, Int.reduceEq, Int.reduceNe, ne_eq, bne_self_eq_false, beq_self_eq_true, stm, hk40, cst1]
    rw [ixm]
    simp only [stp, Nat.reduceAdd, Int.reduceLT, Int.reduceLE, Int.reduceEq, Int.reduceNe, ne_eq, bne_self_eq_false, beq_self_eq_true, stm, x1]
    rw [ixm]
    obtain ⟨pl, cl, rfl⟩ := tl.1.form
    simp only [stp, Nat.reduceAdd, Int.reduceLT, Int.reduceLE, Int.reduceEq, Int.reduceNe, ne_eq, bne_self_eq_false, beq_self_eq_true, stm, x7]
    have kd : K0 w6 w6.drew := (K0.refl w6).drew
    have R6d : Rnd w6.drew B c s6 N k (.slice (some ⟨g, 0, none⟩) 1 1) := { R6 with cl := R6.cl.keep0 kd, v := .inl ⟨hk', g, _, ho, hid, rfl, kd.blk bg id, tl.keep0 kd⟩ }
    refine next_c R6d (Nat.le_trans hB kk6.size) hk' rfl (kd.blk bg id) (by omega) fun w7 s7 v7 R7 k7 => ?_
    simp only [stp, Nat.reduceAdd, Int.reduceLT, Int.reduceLE, Int.reduceEq, Int.reduceNe, ne_eq, bne_self_eq_false, beq_self_eq_true, hwk]
    exact hJ (N.length - (k + 1)) _ _ _ _ (by omega) ⟨k + 1, s7, rfl, rfl, rfl, by omega, R7, kk6.trans ((KO.of0 kd).trans k7)⟩
  · have n1 : ¬ ((0 : Nat) : Int) = 1 := by decide
    simp only [stp, Nat.reduceAdd, Int.reduceLT, Int.reduceLE, Int.reduceEq, Int.reduceNe, ne_eq, bne_self_eq_false, beq_self_eq_true, hk40, n1]
    have hlh : s6.lh = N := canon_unique _ _ R6.cl.canonH R6.hc fun x => by rw [R6.eh, hk', List.take_length]
    exact gives3 R6.cl (Nat.le_trans hB kk6.size) (kk6.blk b5 rfl) R6.e5 R6.e1 R6.eo R6.eg hlh R6.hc R6.hm h24 (rW.ko kk6 fun cs => rfl) hWl hvN hok hb4 hk hblk fun w' k => hq w' (kk6.trans k)
theorem gives1 {g5 : Nat} {L : List I3} {vl : Value} {a b keep block : Int} {w2 : World} (hL : Rd 3 w2 vl L.length (flat enc3 L)) (hLl : L.length ≤ 12) (hd : ∀ k ∈ L, k.2.1 ≤ 4096) (b5 : blk w2 g5 = some (.cells #[.int .i64 a, .int .i64 b] 23))
    (hok : ok (a, b)) (hb4 : b ≤ 4096) (hk : keep = 0 ∨ keep = 1) (hblk : -9223372036854775808 ≤ block ∧ block ≤ 9223372036854775807) (hq : ∀ w', KO (siz w2) cp w2 w' → Q (.bool true) w') :
    P5_1 (.pointer (some ⟨g5, 0, none⟩)) (.int .i64 block) vl (.int .i64 keep) w2 Q := by
  unfold P5_1
  refine cnew_c (B := siz w2) (Nat.le_refl _) fun w3 h3 k3 => ?_
  simp only [stp, Nat.reduceAdd, Int.reduceLT, Int.reduceLE, Int.reduceEq, Int.reduceNe, ne_eq, bne_self_eq_false, beq_self_eq_true]
  refine start_c (Nat.le_refl _) (by decide) (fun w4 s h4 k4 e5 e1 eh eu eo ew eid eout eq_ egr ed => ?_) h3 k3
  have hL4 : Rd 3 w4 vl L.length (flat enc3 L) := hL.keep k4 fun g _ hgs hk' => by have := hk'.1; omega
  obtain ⟨pa, ca, rfl⟩ := hL.form
  simp only [stp, Nat.reduceAdd, Int.reduceLT, Int.reduceLE, Int.reduceEq, Int.reduceNe, ne_eq, bne_self_eq_false, beq_self_eq_true]
  refine lpc2 L.length (by omega) (fun i x w' => Own w' (siz w4) 25 3 x ((L.take i).filter fun k => decide (0 < k.2.2)).length (flat enc3 ((L.take i).filter fun k => decide (0 < k.2.2))) ∧ K0 w4 w') ⟨Own.nil _ _ _ _, K0.refl _⟩ ?_ ?_
  · rintro i x w5 hlt ⟨o5, k5⟩ J hJ _j
    have hlt' : ((i : Int) < (L.length : Int)) := by omega
    obtain ⟨b', o, rfl, p0, p1, p2⟩ := lkr_at (hL4.keep0 k5) hlt
    have hF : (L.take (i + 1)).filter (fun k => decide (0 < k.2.2)) = (L.take i).filter (fun k => decide (0 < k.2.2)) ++ (if 0 < L[i].2.2 then [L[i]] else []) := by
      rw [List.take_add_one, List.getElem?_eq_getElem hlt, Option.toList_some, List.filter_append]
      congr 1
      by_cases h0 : 0 < L[i].2.2 <;> simp [h0]
    have hFl : ((L.take i).filter fun k => decide (0 < k.2.2)).length ≤ i := Nat.le_trans (List.length_filter_le _ _) (by rw [List.length_take]; omega)
    simp only [stp, Nat.reduceAdd, Int.reduceLT, Int.reduceLE, Int.reduceEq, Int.reduceNe, ne_eq, bne_self_eq_false, beq_self_eq_true, hlt']
    refine jn1 (fun (x : Value) (w' : World) => Own w' (siz w4) 25 3 x ((L.take (i + 1)).filter fun k => decide (0 < k.2.2)).length (flat enc3 ((L.take (i + 1)).filter fun k => decide (0 < k.2.2))) ∧ K0 w4 w') (fun J1 hJ1 => ?_) ?_
    · rw [ix_27 hlt]
      simp only [stp, Nat.reduceAdd, Int.reduceLT, Int.reduceLE, Int.reduceEq, Int.reduceNe, ne_eq, bne_self_eq_false, beq_self_eq_true, stm, p2]
      by_cases h0 : 0 < L[i].2.2
      · simp only [stp, Nat.reduceAdd, Int.reduceLT, Int.reduceLE, Int.reduceEq, Int.reduceNe, ne_eq, bne_self_eq_false, beq_self_eq_true, h0]
        rw [ix_27 hlt]
        simp only [stp, Nat.reduceAdd, Int.reduceLT, Int.reduceLE, Int.reduceEq, Int.reduceNe, ne_eq, bne_self_eq_false, beq_self_eq_true, stm, p0, p1, p2]
        refine pu_27 o5 (by intro u hu; simp only [List.mem_cons, List.not_mem_nil, or_false] at hu; rcases hu with rfl | rfl | rfl <;> exact one_int) (by omega) (by have := k5.size; omega) fun v' w' ho hk' hr => hJ1 _ _ ⟨?_, k5.trans' hk' fun b hb e => by have := (o5.lt e).1; omega⟩
        rw [hF, if_pos h0, List.length_append, flat_append, flat_one]
        exact ho
      · simp only [stp, Nat.reduceAdd, Int.reduceLT, Int.reduceLE, Int.reduceEq, Int.reduceNe, ne_eq, bne_self_eq_false, beq_self_eq_true, h0]
        rw [if_neg h0, List.append_nil] at hF
        exact hJ1 _ _ ⟨by rw [hF]; exact o5, k5⟩
    · rintro x6 w6 hI _
      try simp only [stp, Nat.reduceAdd, Int.reduceLT, Int.reduceLE, Int.reduceEq, Int.reduceNe, ne_eq, bne_self_eq_false, beq_self_eq_true]
      exact hJ _ _ hI
  · rintro x w5 ⟨o5, k5⟩ J _j
    have hn : ¬ ((L.length : Int) < (L.length : Int)) := by omega
    rw [List.take_length] at o5
    simp only [stp, Nat.reduceAdd, Int.reduceLT, Int.reduceLE, Int.reduceEq, Int.reduceNe, ne_eq, bne_self_eq_false, beq_self_eq_true, hn]
    have kk5 := k4.trans (KO.of0 k5)
    exact gives2 (h4.keep0 k5) kk5.size (kk5.blk b5 rfl) e5 e1 eh eu eo eid eout egr (o5.trd k4.size) (Nat.le_trans (List.length_filter_le _ _) hLl) (fun k hk' => hd k (List.mem_filter.1 hk').1) hok hb4 hk hblk fun w' k => hq w' (kk5.trans k)
theorem gives_law {vl : Value} {L : List I3} {sp : Int × Int} {keep block : Int} (hL : Rd 3 w vl L.length (flat enc3 L)) (_ : L.length ≤ maxLen) (_ : ∀ s ∈ L, good3 s) (_ : rngS sp) (_ : (Lit.int .i64 keep).wf = true) (hb : (Lit.int .i64 block).wf = true) (hq : ∀ w', Keep (fun b => siz w ≤ b) w w' → Q (.bool true) w') :
    callS Try.prog 5 #[vl, .agg (encS sp).toArray, .int .i64 keep, .int .i64 block] Q w := by
  refine ref5 ?_
  rw [cut5]
  unfold P5_0
  obtain ⟨a, b⟩ := sp
  simp only [encS]
  obtain ⟨pa, ca, rfl⟩ := hL.form
  have k1 : K0 w (w.alloc (.cells #[.int .i64 a, .int .i64 b] 23)) := (K0.refl w).alloc _
  have b1 : blk (w.alloc (.cells #[.int .i64 a, .int .i64 b] 23)) (siz w) = some (.cells #[.int .i64 a, .int .i64 b] 23) := blk_alloc_new
  by_cases h20 : (12 : Int) < (L.length : Int)
  · simp only [stp, Nat.reduceAdd, Int.reduceLT, Int.reduceLE, Int.reduceEq, Int.reduceNe, ne_eq, bne_self_eq_false, beq_self_eq_true, h20]
    exact alive_c fun w' k => hq _ (k1.new.trans' k fun b hb e => Nat.le_trans k1.size e)
  simp only [stp, Nat.reduceAdd, Int.reduceLT, Int.reduceLE, Int.reduceEq, Int.reduceNe, ne_eq, bne_self_eq_false, beq_self_eq_true, h20]
  generalize w.alloc (.cells #[.int .i64 a, .int .i64 b] 23) = w1 at k1 b1
  refine may_c (hL.keep0 k1) (by omega) fun w2 k2 => ?_
  have k02 := k1.trans k2
  have b2 := k2.blk b1 id
  have off : callS Try.prog 10 #[] (fun t w' => Q t w') w2 := alive_c fun w' k => hq _ (k02.new.trans' k fun b hb e => Nat.le_trans k02.size e)
  by_cases hm : ∀ k ∈ L, mayL k
  case neg =>
    simp only [stp, Nat.reduceAdd, Int.reduceLT, Int.reduceLE, Int.reduceEq, Int.reduceNe, ne_eq, bne_self_eq_false, beq_self_eq_true, hm]
    exact off
  have hmt : decide (∀ k ∈ L, mayL k) = true := decide_eq_true hm
  have s0 : cel w2 (siz w) 0 = some (.int .i64 a) := by rw [cel_b b2]; rfl
  have s1 : cel w2 (siz w) 1 = some (.int .i64 b) := by rw [cel_b b2]; rfl
  simp only [stp, Nat.reduceAdd, Int.reduceLT, Int.reduceLE, Int.reduceEq, Int.reduceNe, ne_eq, bne_self_eq_false, beq_self_eq_true, stm, hmt, s0, s1]
  by_cases h0 : a < 0
  · simp only [stp, Nat.reduceAdd, Int.reduceLT, Int.reduceLE, Int.reduceEq, Int.reduceNe, ne_eq, bne_self_eq_false, beq_self_eq_true, stm, h0]
    exact off
  by_cases h1 : b ≤ a
  · simp only [stp, Nat.reduceAdd, Int.reduceLT, Int.reduceLE, Int.reduceEq, Int.reduceNe, ne_eq, bne_self_eq_false, beq_self_eq_true, stm, h0, s0, s1, h1]
    exact off
  by_cases h2 : 4096 < b
  · simp only [stp, Nat.reduceAdd, Int.reduceLT, Int.reduceLE, Int.reduceEq, Int.reduceNe, ne_eq, bne_self_eq_false, beq_self_eq_true, stm, h0, s0, s1, h1, h2]
    exact off
  by_cases h3 : keep < 0
  · simp only [stp, Nat.reduceAdd, Int.reduceLT, Int.reduceLE, Int.reduceEq, Int.reduceNe, ne_eq, bne_self_eq_false, beq_self_eq_true, stm, h0, s0, s1, h1, h2, h3]
    exact off
  by_cases h4 : 1 < keep
  · simp only [stp, Nat.reduceAdd, Int.reduceLT, Int.reduceLE, Int.reduceEq, Int.reduceNe, ne_eq, bne_self_eq_false, beq_self_eq_true, stm, h0, s0, s1, h1, h2, h3, h4]
    exact off
  simp only [stp, Nat.reduceAdd, Int.reduceLT, Int.reduceLE, Int.reduceEq, Int.reduceNe, ne_eq, bne_self_eq_false, beq_self_eq_true, stm, h0, s0, s1, h1, h2, h3, h4]
  exact gives1 (hL.keep0 k02) (by omega) (fun k hk => (hm k hk).2.1) b2 ⟨by simp only; omega, by simp only; omega⟩ (by omega) (by omega) (wf64 hb) fun w' k => hq _ (k02.new.trans' (k.below (Nat.le_refl _)) fun b hb e => Nat.le_trans k02.size e)
end
end Go.Proofs.Ytknklmemadediaa
