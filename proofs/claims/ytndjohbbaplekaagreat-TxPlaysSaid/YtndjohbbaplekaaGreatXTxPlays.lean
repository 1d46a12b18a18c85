/- What TxPlays computes: true. Conditions: none. -/
import Derived.Test.YtndjohbbaplekaaGreatXTxX
set_option linter.unusedSimpArgs false
set_option linter.unusedVariables false
namespace Go.Proofs.YtndjohbbaplekaaGreatX
open Go.Sh Go.Proofs.YtndjohbbaplekaaGreatX.Mi
set_option maxRecDepth 100000
def P7_3 (J_1 : Cur 4) (t19 : Value) (t55 : Value) (t89 : Value) (v_i : Value) (v_locks_1 : Value) (v_read_1 : Value) (v_wrote_1 : Value) (w_129 : World) (Q : Value → World → Prop) : Prop :=
 pur Tryz.prog (Instr.fieldAt 133 t19 1) fun t237 => 
    rd Tryz.prog (Instr.loadAt 3 t237) (fun t238 => 
    callS Tryz.prog 58 #[v_locks_1, t238] (fun t239 w_130 => 
    pur Tryz.prog (Instr.extract t239 0) fun _ => 
    pur Tryz.prog (Instr.extract t239 1) fun t241 => 
    jn 1 (fun J_5 => 
     pur Tryz.prog (Op.unary .not t241) fun t243 => 
     condS t243
      (J_5 (.int .i64 30) w_130)
      (J_5 (.int .i64 0) w_130))
    (fun v_want_1 w_131 => ∀ _j : Fr, 
     callS Tryz.prog 87 #[t55] (fun t245 w_132 => 
     callS Tryz.prog 88 #[t55] (fun t247 w_133 => 
     callS Tryz.prog 89 #[t55] (fun t249 w_134 => 
     callS Tryz.prog 67 #[t89, t245] (fun _ w_135 => 
     callS Tryz.prog 90 #[t89, t247] (fun _ w_136 => 
     callS Tryz.prog 90 #[t89, t249] (fun _ w_137 => 
     pur Tryz.prog (Instr.fieldAt 133 t19 1) fun t261 => 
     rd Tryz.prog (Instr.loadAt 3 t261) (fun t262 => 
     callS Tryz.prog 91 #[t55, t262] (fun t263 w_138 => 
     pur Tryz.prog (Instr.extract t263 0) fun t264 => 
     pur Tryz.prog (Instr.extract t263 1) fun t265 => 
     lp 2 (fun J_6 => fun v_there v_k_1 w_139 => ∀ _j : Fr, 
      pur Tryz.prog (Builtin.len_ #[131] 3 #[v_wrote_1]) fun t268 => 
      pur Tryz.prog (binS .lss 3 false false v_k_1 t268) fun t269 => 
      condS t269
       (jn 1 (fun J_7 => 
       pur Tryz.prog (Instr.indexAt 131 v_wrote_1 v_k_1) fun t274 => 
       pur Tryz.prog (Instr.fieldAt 138 t274 0) fun t275 => 
       rd Tryz.prog (Instr.loadAt 3 t275) (fun t276 => 
       pur Tryz.prog (Instr.fieldAt 133 t19 1) fun t277 => 
       rd Tryz.prog (Instr.loadAt 3 t277) (fun t278 => 
       pur Tryz.prog (binS .eql 3 false false t276 t278) fun t279 => 
       condS t279
        (pur Tryz.prog (Instr.indexAt 131 v_wrote_1 v_k_1) fun t283 => 
        pur Tryz.prog (Instr.fieldAt 138 t283 2) fun t284 => 
        rd Tryz.prog (Instr.loadAt 9 t284) (fun t285 => 
        pur Tryz.prog (binS .neq 9 false false t264 t285) fun t286 => 
        condS t286
         (Q (.bool false) (World.drew w_139))
         (J_7 (.bool true) (World.drew w_139))) (World.drew w_139))
        (J_7 v_there (World.drew w_139))) (World.drew w_139)) (World.drew w_139))
      (fun v_there_1 w_140 => ∀ _j : Fr, 
       pur Tryz.prog (binS .add 3 false true v_k_1 (.int .i64 1)) fun t271 => 
       J_6 v_there_1 t271 w_140))
       (pur Tryz.prog (Instr.fieldAt 133 t19 1) fun t288 => 
     rd Tryz.prog (Instr.loadAt 3 t288) (fun t289 => 
     callS Tryz.prog 92 #[t55, t289] (fun t290 w_141 => 
     pur Tryz.prog (binS .neq 126 false false t290 v_want_1) fun t292 => 
     gd t292 false (fun k_49 w_142 => k_49 t265 w_142) (fun t294_1 w_143 => 
     gd t292 false (fun k_50 w_144 => k_50 v_there w_144) (fun t295_1 w_145 => 
     gd t292 false (fun k_51 w_146 => pur Tryz.prog (binS .neq 4 false false t294_1 t295_1) fun t296 => k_51 t296 w_146) (fun t296_1 w_147 => 
     pur Tryz.prog (pickS t292 (.bool true) t296_1) fun t297 => 
     gd t297 false (fun k_52 w_148 => k_52 t245 w_148) (fun t299_1 w_149 => 
     gd t297 false (fun k_53 w_150 => k_53 v_locks_1 w_150) (fun t300_1 w_151 => 
     gd t297 false (fun k_54 w_152 => callS Tryz.prog 70 #[t300_1] (fun t301 w_153 => k_54 t301 w_153) w_152) (fun t301_1 w_154 => 
     gd t297 false (fun k_55 w_155 => callS Tryz.prog 69 #[t299_1, t301_1] (fun t302 w_156 => k_55 t302 w_156) w_155) (fun t302_1 w_157 => 
     gd t297 false (fun k_56 w_158 => pur Tryz.prog (Op.unary .not t302_1) fun t303 => k_56 t303 w_158) (fun t303_1 w_159 => 
     pur Tryz.prog (pickS t297 (.bool true) t303_1) fun t304 => 
     gd t304 false (fun k_57 w_160 => k_57 t247 w_160) (fun t306_1 w_161 => 
     gd t304 false (fun k_58 w_162 => k_58 v_wrote_1 w_162) (fun t307_1 w_163 => 
     gd t304 false (fun k_59 w_164 => callS Tryz.prog 93 #[t306_1, t307_1] (fun t308 w_165 => k_59 t308 w_165) w_164) (fun t308_1 w_166 => 
     gd t304 false (fun k_60 w_167 => pur Tryz.prog (Op.unary .not t308_1) fun t309 => k_60 t309 w_167) (fun t309_1 w_168 => 
     pur Tryz.prog (pickS t304 (.bool true) t309_1) fun t310 => 
     gd t310 false (fun k_61 w_169 => k_61 t249 w_169) (fun t312_1 w_170 => 
     gd t310 false (fun k_62 w_171 => k_62 v_read_1 w_171) (fun t313_1 w_172 => 
     gd t310 false (fun k_63 w_173 => callS Tryz.prog 93 #[t312_1, t313_1] (fun t314 w_174 => k_63 t314 w_174) w_173) (fun t314_1 w_175 => 
     gd t310 false (fun k_64 w_176 => pur Tryz.prog (Op.unary .not t314_1) fun t315 => k_64 t315 w_176) (fun t315_1 w_177 => 
     pur Tryz.prog (pickS t310 (.bool true) t315_1) fun t316 => 
     gd t316 false (fun k_65 w_178 => k_65 t55 w_178) (fun t318_1 w_179 => 
     gd t316 false (fun k_66 w_180 => callS Tryz.prog 94 #[t318_1] (fun t319 w_181 => k_66 t319 w_181) w_180) (fun t319_1 w_182 => 
     gd t316 false (fun k_67 w_183 => k_67 v_wrote_1 w_183) (fun t320_1 w_184 => 
     gd t316 false (fun k_68 w_185 => pur Tryz.prog (Builtin.len_ #[131] 3 #[t320_1]) fun t321 => k_68 t321 w_185) (fun t321_1 w_186 => 
     gd t316 false (fun k_69 w_187 => pur Tryz.prog (binS .neq 3 false false t319_1 t321_1) fun t322 => k_69 t322 w_187) (fun t322_1 w_188 => 
     pur Tryz.prog (pickS t316 (.bool true) t322_1) fun t323 => 
     condS t323
      (Q (.bool false) w_188)
      (pur Tryz.prog (binS .add 3 false true v_i (.int .i64 1)) fun t101 => 
   J_1 v_locks_1 v_wrote_1 v_read_1 t101 w_188)) w_186) w_184) w_182) w_179) w_177) w_175) w_172) w_170) w_168) w_166) w_163) w_161) w_159) w_157) w_154) w_151) w_149) w_147) w_145) w_143) w_141) w_139) w_139)) [(.bool false), (.int .i64 0)] w_138) w_137) w_137) w_136) w_135) w_134) w_133) w_132) w_131)) w_129) w_129
def P7_2 (J_1 : Cur 4) (t115 : Value) (t116 : Value) (t121 : Value) (t122 : Value) (t19 : Value) (t55 : Value) (t89 : Value) (t95 : Value) (v_i : Value) (v_known : Value) (v_locks : Value) (v_read : Value) (v_wrote : Value) (w_54 : World) (Q : Value → World → Prop) : Prop :=
 jn 3 (fun J_3 => 
    pur Tryz.prog (Instr.fieldAt 133 t19 0) fun t140 => 
    rd Tryz.prog (Instr.loadAt 3 t140) (fun t141 => 
    pur Tryz.prog (binS .eql 3 false true t141 (.int .i64 1)) fun t184 => 
    condS t184
     (jn 1 (fun J_4 => 
      pur Tryz.prog (Op.unary .not t116) fun t187 => 
      condS t187
       (J_4 (.int .i64 30) w_54)
       (pur Tryz.prog (binS .neq 126 false true t122 (.int .i64 0)) fun t190 => 
       condS t190
        (J_4 t122 w_54)
        (pur Tryz.prog (binS .neq 3 false true t115 (.int .i64 2)) fun t194 => 
        condS t194
         (J_4 (.int .i64 13) w_54)
         (pur Tryz.prog (Op.unary .not v_known) fun t197 => 
         gd t197 true (fun k_25 w_71 => k_25 v_wrote w_71) (fun t199_1 w_72 => 
         gd t197 true (fun k_26 w_73 => pur Tryz.prog (Builtin.len_ #[131] 3 #[t199_1]) fun t200 => k_26 t200 w_73) (fun t200_1 w_74 => 
         gd t197 true (fun k_27 w_75 => k_27 t95 w_75) (fun t201_1 w_76 => 
         gd t197 true (fun k_28 w_77 => pur Tryz.prog (binS .geq 3 false false t200_1 t201_1) fun t202 => k_28 t202 w_77) (fun t202_1 w_78 => 
         pur Tryz.prog (pickS t197 t202_1 (.bool false)) fun t203 => 
         condS t203
          (J_4 (.int .i64 31) w_78)
          (J_4 (.int .i64 0) w_78)) w_76) w_74) w_72) w_54))))
     (fun v_want w_79 => ∀ _j : Fr, 
      pur Tryz.prog (Instr.fieldAt 133 t19 1) fun t205 => 
      rd Tryz.prog (Instr.loadAt 3 t205) (fun t206 => 
      pur Tryz.prog (Instr.fieldAt 133 t19 2) fun t207 => 
      rd Tryz.prog (Instr.loadAt 9 t207) (fun t208 => 
      callS Tryz.prog 81 #[t55, t206, t208] (fun t209 w_80 => 
      pur Tryz.prog (binS .neq 126 false false t209 v_want) fun t211 => 
      condS t211
       (Q (.bool false) w_80)
       (pur Tryz.prog (binS .eql 126 false true v_want (.int .i64 0)) fun t213 => 
      condS t213
       (pur Tryz.prog (Instr.fieldAt 133 t19 1) fun t215 => 
       rd Tryz.prog (Instr.loadAt 3 t215) (fun t216 => 
       pur Tryz.prog (Instr.build 138 #[(0, t216), (2, t121)]) fun t218 => 
       callS Tryz.prog 82 #[v_wrote, t218, (.bool true)] (fun t219 w_81 => 
       J_3 v_locks t219 v_read w_81) w_80) w_80)
       (J_3 v_locks v_wrote v_read w_80))) w_79) w_79) w_79))
     (pur Tryz.prog (binS .eql 3 false true t141 (.int .i64 2)) fun t221 => 
     condS t221
      (pur Tryz.prog (Instr.fieldAt 133 t19 1) fun t223 => 
      rd Tryz.prog (Instr.loadAt 3 t223) (fun t224 => 
      pur Tryz.prog (Instr.fieldAt 133 t19 2) fun t225 => 
      rd Tryz.prog (Instr.loadAt 9 t225) (fun t226 => 
      callS Tryz.prog 83 #[t55, t224, t226] (fun _ w_82 => 
      pur Tryz.prog (Instr.fieldAt 133 t19 1) fun t229 => 
      rd Tryz.prog (Instr.loadAt 3 t229) (fun t230 => 
      pur Tryz.prog (Instr.fieldAt 133 t19 2) fun t231 => 
      rd Tryz.prog (Instr.loadAt 9 t231) (fun t232 => 
      pur Tryz.prog (Instr.build 138 #[(0, t230), (2, t232)]) fun t233 => 
      callS Tryz.prog 82 #[v_read, t233, (.bool false)] (fun t234 w_83 => 
      J_3 v_locks v_wrote t234 w_83) w_82) w_82) w_82) w_54) w_54) w_54)
      (pur Tryz.prog (Instr.fieldAt 133 t19 1) fun t144 => 
      rd Tryz.prog (Instr.loadAt 3 t144) (fun t145 => 
      callS Tryz.prog 84 #[t55, t145] (fun t146 w_84 => 
      pur Tryz.prog (Instr.extract t146 0) fun t147 => 
      pur Tryz.prog (Instr.extract t146 1) fun t148 => 
      act Tryz.prog (Instr.alloc 143 true (.tuple #[])) (fun t27 w_85 => 
      act Tryz.prog (thenU (Instr.storeAt 143 t27 t147)) (fun _ w_86 => 
      gd t116 true (fun k_29 w_87 => k_29 t115 w_87) (fun t151_1 w_88 => 
      gd t116 true (fun k_30 w_89 => pur Tryz.prog (binS .eql 3 false true t151_1 (.int .i64 1)) fun t152 => k_30 t152 w_89) (fun t152_1 w_90 => 
      pur Tryz.prog (pickS t116 t152_1 (.bool false)) fun t153 => 
      pur Tryz.prog (binS .neq 4 false false t148 t153) fun t156 => 
      gd t156 false (fun k_31 w_91 => k_31 t153 w_91) (fun t158_1 w_92 => 
      gd t156 false (fun k_32 w_93 => k_32 t158_1 w_93) (fun t159_1 w_94 => 
      gd t159_1 true (fun k_33 w_95 => rd Tryz.prog (Instr.loadAt 143 t27) (fun t160 => k_33 t160 w_95) w_95) (fun t160_1 w_96 => 
      gd t159_1 true (fun k_34 w_97 => pur Tryz.prog (Instr.fieldAt 133 t19 1) fun t161 => k_34 t161 w_97) (fun t161_1 w_98 => 
      gd t159_1 true (fun k_35 w_99 => rd Tryz.prog (Instr.loadAt 3 t161_1) (fun t162 => k_35 t162 w_99) w_99) (fun t162_1 w_100 => 
      gd t159_1 true (fun k_36 w_101 => pur Tryz.prog (Instr.fieldAt 133 t19 1) fun t163 => k_36 t163 w_101) (fun t163_1 w_102 => 
      gd t159_1 true (fun k_37 w_103 => rd Tryz.prog (Instr.loadAt 3 t163_1) (fun t164 => k_37 t164 w_103) w_103) (fun t164_1 w_104 => 
      gd t159_1 true (fun k_38 w_105 => pur Tryz.prog (binS .add 3 false true t164_1 (.int .i64 1)) fun t165 => k_38 t165 w_105) (fun t165_1 w_106 => 
      gd t159_1 true (fun k_39 w_107 => pur Tryz.prog (Instr.build 72 #[(0, t162_1), (1, t165_1)]) fun t166 => k_39 t166 w_107) (fun t166_1 w_108 => 
      gd t159_1 true (fun k_40 w_109 => pur Tryz.prog (Instr.build 143 #[(0, t166_1), (1, (.int .i64 2))]) fun t167 => k_40 t167 w_109) (fun t167_1 w_110 => 
      gd t159_1 true (fun k_41 w_111 => rd Tryz.prog (binS .neq 143 false false t160_1 t167_1) (fun t168 => k_41 t168 w_111) w_111) (fun t168_1 w_112 => 
      gd t156 false (fun k_42 w_113 => pur Tryz.prog (pickS t159_1 t168_1 (.bool false)) fun t169 => k_42 t169 w_113) (fun t169_1 w_114 => 
      pur Tryz.prog (pickS t156 (.bool true) t169_1) fun t170 => 
      gd t170 false (fun k_43 w_115 => k_43 t55 w_115) (fun t172_1 w_116 => 
      gd t170 false (fun k_44 w_117 => pur Tryz.prog (Instr.fieldAt 133 t19 1) fun t173 => k_44 t173 w_117) (fun t173_1 w_118 => 
      gd t170 false (fun k_45 w_119 => rd Tryz.prog (Instr.loadAt 3 t173_1) (fun t174 => k_45 t174 w_119) w_119) (fun t174_1 w_120 => 
      gd t170 false (fun k_46 w_121 => callS Tryz.prog 85 #[t172_1, t174_1] (fun t175 w_122 => k_46 t175 w_122) w_121) (fun t175_1 w_123 => 
      gd t170 false (fun k_47 w_124 => k_47 t153 w_124) (fun t176_1 w_125 => 
      gd t170 false (fun k_48 w_126 => pur Tryz.prog (binS .neq 4 false false t175_1 t176_1) fun t177 => k_48 t177 w_126) (fun t177_1 w_127 => 
      pur Tryz.prog (pickS t170 (.bool true) t177_1) fun t178 => 
      condS t178
       (Q (.bool false) w_127)
       (condS t153
       (rd Tryz.prog (Instr.loadAt 143 t27) (fun t181 => 
       callS Tryz.prog 86 #[v_locks, t181] (fun t182 w_128 => 
       J_3 t182 v_wrote v_read w_128) w_127) w_127)
       (J_3 v_locks v_wrote v_read w_127))) w_125) w_123) w_120) w_118) w_116) w_114) w_112) w_110) w_108) w_106) w_104) w_102) w_100) w_98) w_96) w_94) w_92) w_90) w_88) w_86) w_85) w_84) w_54) w_54))) w_54)
   (fun v_locks_1 v_wrote_1 v_read_1 w_129 => ∀ _j : Fr, 
    P7_3 J_1 t19 t55 t89 v_i v_locks_1 v_read_1 v_wrote_1 w_129 Q)
def P7_1 (t55 : Value) (t87 : Value) (t89 : Value) (t95 : Value) (v_ops : Value) (w_48 : World) (Q : Value → World → Prop) : Prop :=
 lp 4 (fun J_1 => fun v_locks v_wrote v_read v_i w_49 => ∀ _j : Fr, 
   pur Tryz.prog (Builtin.len_ #[123] 3 #[v_ops]) fun t98 => 
   pur Tryz.prog (binS .lss 3 false false v_i t98) fun t99 => 
   condS t99
    (pur Tryz.prog (Instr.indexAt 123 v_ops v_i) fun t104 => 
   rd Tryz.prog (Instr.loadAt 133 t104) (fun t105 => 
   act Tryz.prog (Instr.alloc 133 true (.tuple #[])) (fun t19 w_50 => 
   act Tryz.prog (thenU (Instr.storeAt 133 t19 t105)) (fun _ w_51 => 
   pur Tryz.prog (Instr.fieldAt 133 t19 2) fun t106 => 
   rd Tryz.prog (Instr.loadAt 9 t106) (fun t107 => 
   pur Tryz.prog (Builtin.len_ #[9] 3 #[t107]) fun t108 => 
   pur Tryz.prog (binS .gtr 3 false true t108 (.int .i64 300)) fun t109 => 
   condS t109
    (Q (.bool true) w_51)
    (pur Tryz.prog (Instr.fieldAt 133 t19 1) fun t112 => 
   rd Tryz.prog (Instr.loadAt 3 t112) (fun t113 => 
   callS Tryz.prog 58 #[v_locks, t113] (fun t114 w_52 => 
   pur Tryz.prog (Instr.extract t114 0) fun t115 => 
   pur Tryz.prog (Instr.extract t114 1) fun t116 => 
   pur Tryz.prog (Instr.fieldAt 133 t19 2) fun t118 => 
   rd Tryz.prog (Instr.loadAt 9 t118) (fun t119 => 
   callS Tryz.prog 80 #[t119] (fun t120 w_53 => 
   pur Tryz.prog (Instr.extract t120 0) fun t121 => 
   pur Tryz.prog (Instr.extract t120 1) fun t122 => 
   lp 2 (fun J_2 => fun v_known v_k w_54 => ∀ _j : Fr, 
    pur Tryz.prog (Builtin.len_ #[131] 3 #[v_wrote]) fun t125 => 
    pur Tryz.prog (binS .lss 3 false false v_k t125) fun t126 => 
    condS t126
     (gd v_known false (fun k_17 w_55 => k_17 v_wrote w_55) (fun t131_1 w_56 => 
    gd v_known false (fun k_18 w_57 => k_18 v_k w_57) (fun t132_1 w_58 => 
    gd v_known false (fun k_19 w_59 => pur Tryz.prog (Instr.indexAt 131 t131_1 t132_1) fun t133 => k_19 t133 w_59) (fun t133_1 w_60 => 
    gd v_known false (fun k_20 w_61 => pur Tryz.prog (Instr.fieldAt 138 t133_1 0) fun t134 => k_20 t134 w_61) (fun t134_1 w_62 => 
    gd v_known false (fun k_21 w_63 => rd Tryz.prog (Instr.loadAt 3 t134_1) (fun t135 => k_21 t135 w_63) w_63) (fun t135_1 w_64 => 
    gd v_known false (fun k_22 w_65 => pur Tryz.prog (Instr.fieldAt 133 t19 1) fun t136 => k_22 t136 w_65) (fun t136_1 w_66 => 
    gd v_known false (fun k_23 w_67 => rd Tryz.prog (Instr.loadAt 3 t136_1) (fun t137 => k_23 t137 w_67) w_67) (fun t137_1 w_68 => 
    gd v_known false (fun k_24 w_69 => pur Tryz.prog (binS .eql 3 false false t135_1 t137_1) fun t138 => k_24 t138 w_69) (fun t138_1 w_70 => 
    pur Tryz.prog (pickS v_known (.bool true) t138_1) fun t139 => 
    pur Tryz.prog (binS .add 3 false true v_k (.int .i64 1)) fun t128 => 
    J_2 t139 t128 w_70) w_68) w_66) w_64) w_62) w_60) w_58) w_56) (World.drew w_54))
     (P7_2 J_1 t115 t116 t121 t122 t19 t55 t89 t95 v_i v_known v_locks v_read v_wrote w_54 Q)) [(.bool false), (.int .i64 0)] w_53) w_52) w_52) w_51) w_51)) w_51) w_50) w_49) w_49)
    (callS Tryz.prog 74 #[] (fun t324 w_189 => 
  gd t324 true (fun k_70 w_190 => k_70 t89 w_190) (fun t326_1 w_191 => 
  gd t324 true (fun k_71 w_192 => callS Tryz.prog 22 #[t326_1] (fun t327 w_193 => k_71 t327 w_193) w_192) (fun t327_1 w_194 => 
  pur Tryz.prog (pickS t324 t327_1 (.bool false)) fun t328 => 
  Q t328 w_194) w_191) w_189) w_49)) [t87, (.slice none 0 0), (.slice none 0 0), (.int .i64 0)] w_48
def P7_0 (v_s v_own v_l v_ops : Value) (Q : Value → World → Prop) (w : World) : Prop :=
 act Tryz.prog (Instr.box 122 v_s) (fun t4 w_1 => 
 pur Tryz.prog (Builtin.len_ #[109] 3 #[v_l]) fun t39 => 
 pur Tryz.prog (binS .gtr 3 false true t39 (.int .i64 30)) fun t40 => 
 gd t40 false (fun k w_2 => k v_ops w_2) (fun t42_1 w_3 => 
 gd t40 false (fun k_1 w_4 => pur Tryz.prog (Builtin.len_ #[123] 3 #[t42_1]) fun t43 => k_1 t43 w_4) (fun t43_1 w_5 => 
 gd t40 false (fun k_2 w_6 => pur Tryz.prog (binS .gtr 3 false true t43_1 (.int .i64 60)) fun t44 => k_2 t44 w_6) (fun t44_1 w_7 => 
 pur Tryz.prog (pickS t40 (.bool true) t44_1) fun t45 => 
 condS t45
  (callS Tryz.prog 74 #[] (fun t46 w_8 => 
  Q t46 w_8) w_7)
  (jn 0 (fun J => 
  condS v_own
   (callS Tryz.prog 75 #[] (fun t48 w_9 => 
   act Tryz.prog (thenU (Instr.storeAt 122 t4 t48)) (fun _ w_10 => 
   J  w_10) w_9) w_7)
   (J  w_7))
 (fun  w_11 => ∀ _j : Fr, 
  callS Tryz.prog 64 #[v_l] (fun t50 w_12 => 
  rd Tryz.prog (Instr.loadAt 122 t4) (fun t52 => 
  callS Tryz.prog 76 #[t52, t50] (fun t54 w_13 => 
  pur Tryz.prog (Instr.extract t54 0) fun t55 => 
  pur Tryz.prog (Instr.extract t54 1) fun t56 => 
  rd Tryz.prog (Instr.loadAt 122 t4) (fun t57 => 
  callS Tryz.prog 77 #[t57, v_l] (fun t59 w_14 => 
  pur Tryz.prog (binS .neq 126 false false t56 t59) fun t62 => 
  gd t62 false (fun k_3 w_15 => rd Tryz.prog (Instr.loadAt 122 t4) (fun t64 => k_3 t64 w_15) w_15) (fun t64_1 w_16 => 
  gd t62 false (fun k_4 w_17 => k_4 t50 w_17) (fun t65_1 w_18 => 
  gd t62 false (fun k_5 w_19 => callS Tryz.prog 78 #[t64_1, t65_1] (fun t66 w_20 => k_5 t66 w_20) w_19) (fun t66_1 w_21 => 
  gd t62 false (fun k_6 w_22 => k_6 t59 w_22) (fun t67_1 w_23 => 
  gd t62 false (fun k_7 w_24 => pur Tryz.prog (binS .neq 126 false false t66_1 t67_1) fun t68 => k_7 t68 w_24) (fun t68_1 w_25 => 
  pur Tryz.prog (pickS t62 (.bool true) t68_1) fun t69 => 
  gd t69 false (fun k_8 w_26 => k_8 t55 w_26) (fun t71_1 w_27 => 
  gd t69 false (fun k_9 w_28 => rd Tryz.prog (binS .neq 125 false true t71_1 (.pointer none)) (fun t72 => k_9 t72 w_28) w_28) (fun t72_1 w_29 => 
  gd t69 false (fun k_10 w_30 => k_10 t59 w_30) (fun t73_1 w_31 => 
  gd t69 false (fun k_11 w_32 => pur Tryz.prog (binS .eql 126 false true t73_1 (.int .i64 0)) fun t74 => k_11 t74 w_32) (fun t74_1 w_33 => 
  gd t69 false (fun k_12 w_34 => pur Tryz.prog (binS .neq 4 false false t72_1 t74_1) fun t75 => k_12 t75 w_34) (fun t75_1 w_35 => 
  pur Tryz.prog (pickS t69 (.bool true) t75_1) fun t76 => 
  gd t76 false (fun k_13 w_36 => k_13 t50 w_36) (fun t78_1 w_37 => 
  gd t76 false (fun k_14 w_38 => k_14 v_l w_38) (fun t79_1 w_39 => 
  gd t76 false (fun k_15 w_40 => callS Tryz.prog 73 #[t78_1, t79_1] (fun t80 w_41 => k_15 t80 w_41) w_40) (fun t80_1 w_42 => 
  gd t76 false (fun k_16 w_43 => pur Tryz.prog (Op.unary .not t80_1) fun t81 => k_16 t81 w_43) (fun t81_1 w_44 => 
  pur Tryz.prog (pickS t76 (.bool true) t81_1) fun t82 => 
  condS t82
   (Q (.bool false) w_44)
   (rd Tryz.prog (binS .eql 125 false true t55 (.pointer none)) (fun t84 => 
  condS t84
   (callS Tryz.prog 74 #[] (fun t85 w_45 => 
   Q t85 w_45) w_44)
   (callS Tryz.prog 71 #[v_l] (fun t87 w_46 => 
  pur Tryz.prog (Instr.build 51 #[]) fun t88 => 
  act Tryz.prog (Instr.box 51 t88) (fun t89 w_47 => 
  ∃ S : World → Prop, S (World.drew w_47) ∧ 
  pur Tryz.prog (Instr.fieldAt 122 t4 2) fun t90 => 
  hld Tryz.prog S (Instr.loadAt 3 t90) fun t91 => 
  callS Tryz.prog 79 #[t91] (fun t92 w_48 => S w_48 ∧ 
  pur Tryz.prog (Instr.fieldAt 122 t4 3) fun t93 => 
  hld Tryz.prog S (Instr.loadAt 3 t93) fun t94 => 
  pur Tryz.prog (Builtin.min_ #[3, 3] 3 #[t92, t94]) fun t95 => 
  P7_1 t55 t87 t89 t95 v_ops w_48 Q) (World.drew w_47)) w_46) w_44)) w_44)) w_42) w_39) w_37) w_35) w_33) w_31) w_29) w_27) w_25) w_23) w_21) w_18) w_16) w_14) w_13) w_13) w_12) w_12) w_11))) w_5) w_3) w_1) w
theorem cut7 (v_s v_own v_l v_ops : Value) (Q : Value → World → Prop) (w : World) : S7 v_s v_own v_l v_ops Q w = P7_0 v_s v_own v_l v_ops Q w := rfl
-- P7_1 t55 t87 t89 t95 v_ops w_48 Q
-- P7_2 J_1 t115 t116 t121 t122 t19 t55 t89 t95 v_i v_known v_locks v_read v_wrote w_54 Q
-- P7_3 J_1 t19 t55 t89 v_i v_locks_1 v_read_1 v_wrote_1 w_129 Q
section
variable {w w' w0 : World} {Q : Value → World → Prop} {B b t bo i : Nat} {s s' : TS} {vl vw vr : Value} {W R : List Im} {f : Nat → Value} {pL qL : List (Value × List I3)} {pI qI : List (Value × List Im)}
theorem any_take {x : Int} {k : Nat} (hk : k < W.length) : ((W.take (k + 1)).any fun p => decide (p.1 = x)) = (((W.take k).any fun p => decide (p.1 = x)) || decide (W[k].1 = x)) := by
  rw [List.take_add_one, List.getElem?_eq_getElem hk, Option.toList_some, List.any_append]; simp
theorem plays_tail {J : Cur 4} {kd x : Int} {d : ByteArray} {u : World} (h : TP w0 B u b t s vl vw vr W R f pL qL pI qI) (hp : TPl s W R (i + 1)) (hi : i < 60)
    (ob : blk u bo = some (.cells #[.int .i64 kd, .int .i64 x, .string d] 133))
    (hJ : ∀ u' f' pL' qL' pI' qI', TP w0 B u' b t s vl vw vr W R f' pL' qL' pI' qI' → J vl vw vr (.int .i64 (IntKind.i64.wrap ((i : Int) + 1))) u') :
    P7_3 J (.pointer (some ⟨bo, 0, none⟩)) (.pointer (some ⟨t, 0, none⟩)) (.pointer (some ⟨b, 0, none⟩)) (.int .i64 (i : Int)) vl vr vw u Q := by
  unfold P7_3
  have hcl := h.tx.canon
  have hlen := hp.ch.len hcl
  have hlw := hp.lw
  have hlr := hp.lr
  have hwr := hp.sw.len
  have hrd := hp.sr.len
  have d1 : Sh.cel u bo 1 = some (.int .i64 x) := cel_b ob 1
  obtain ⟨pl, cl, el⟩ := Own.form h.lk
  obtain ⟨pw, cw, ew⟩ := h.ow.form
  obtain ⟨pr, cr, er⟩ := h.orr.form
  simp only [stp, Nat.reduceAdd, Int.reduceLT, Int.reduceLE, Int.reduceEq, Int.reduceNe, ne_eq, bne_self_eq_false, beq_self_eq_true, stm, d1, Option.isSome_some, Option.getD_some]
  refine rget_c (x := x) h.lk hcl (by omega) fun u1 k1 => ?_
  simp only [stp, Nat.reduceAdd, Int.reduceLT, Int.reduceLE, Int.reduceEq, Int.reduceNe, ne_eq, bne_self_eq_false, beq_self_eq_true, stm]
  refine jn1 (fun y u' => y = .int .i64 (if (valB s.l x).isSome then 0 else 30) ∧ u' = u1) (fun J5 hJ5 => ?_) ?_
  · cases hv : valB s.l x with
    | none =>
      simp only [stp, Nat.reduceAdd, Int.reduceLT, Int.reduceLE, Int.reduceEq, Int.reduceNe, ne_eq, bne_self_eq_false, beq_self_eq_true, stm, Option.isSome_none, Bool.not_false]
      exact hJ5 _ _ ⟨by rw [hv]; rfl, rfl⟩
    | some md =>
      simp only [stp, Nat.reduceAdd, Int.reduceLT, Int.reduceLE, Int.reduceEq, Int.reduceNe, ne_eq, bne_self_eq_false, beq_self_eq_true, stm, Option.isSome_some, Bool.not_true]
      exact hJ5 _ _ ⟨by rw [hv]; rfl, rfl⟩
  · rintro y u' ⟨rfl, rfl⟩ _j
    have h1 := h.k0 k1
    have s1 := k1.size
    refine tlocks_c h1.tx (by omega) fun u2 va oa k2 => ?_
    have h2 := h1.k0 k2
    have s2 := k2.size
    refine twrites_c h2.tx (by omega) hp.wf1 fun u3 vb ks hks hs1 ob3 k3 => ?_
    have eb := hp.sw.imgs hks hs1
    have ebl : ks.length = W.length := by have := congrArg List.length eb; simpa [imgs] using this
    rw [eb, ebl] at ob3
    have h3 := h2.k0 k3
    have s3 := k3.size
    refine treads_c h3.tx (by omega) hp.wf2 fun u4 vc ks' hks' hs1' oc4 k4 => ?_
    have ec := hp.sr.imgs hks' hs1'
    have ecl : ks'.length = R.length := by have := congrArg List.length ec; simpa [imgs] using this
    rw [ec, ecl] at oc4
    have h4 := h3.k0 k4
    have s4 := k4.size
    have sB := h.Bw
    have oa4 := oa.keep (k3.trans k4) fun _ _ => id
    have ob4 := ob3.keep k4 fun _ _ => id
    have ob_4 := (((k1.trans k2).trans k3).trans k4).blk ob id
    obtain ⟨p1, c1, e1⟩ := oa4.form
    obtain ⟨p2, c2, e2⟩ := ob4.form
    obtain ⟨p3, c3, e3⟩ := oc4.form
    refine BkLocks.add_c h4.bk h4.kL h4.Bw (xs := asLocks s.l) (oa4.le (by omega)) (by rw [asLocks_len]; omega) (by rw [e1]; exact one_slice) (fun g hg e => by
      have := (oa.lt hg).1
      have := (h.kL.lt e).2
      omega) fun u5 f5 pL5 qL5 hb5 hne5 hk5 _ k5 => ?_
    have ko5 := BkLocks.addKO h4.bk h4.Bb h4.kL k5
    have h5 := h4.addL hb5 hne5 hk5 ko5
    have oa5 := ko5.own oa4 fun _ => rfl
    have ob5 := ko5.own ob4 fun _ => rfl
    have oc5 := ko5.own oc4 fun _ => rfl
    have ob_5 := ko5.blk ob_4 rfl
    have s5 := ko5.size
    refine BkImages.add_c h5.bk h5.kI h5.Bw (xs := W) (ob5.le (by omega)) (by omega) (by rw [e2]; exact one_slice) (fun g hg e => by
      have := (ob3.lt hg).1
      rw [hne5 10 (by decide) (by decide), hne5 11 (by decide) (by decide)] at e
      have := (h.kI.lt e).2
      omega) fun u6 f6 pI6 qI6 hb6 hne6 hk6 hs6 k6 => ?_
    have ko6 := BkImages.addKO h5.bk h5.Bb h5.kI k6
    have h6 := h5.addI hb6 hne6 hk6 ko6
    have oa6 := ko6.own oa5 fun _ => rfl
    have ob6 := ko6.own ob5 fun _ => rfl
    have oc6 := ko6.own oc5 fun _ => rfl
    have ob_6 := ko6.blk ob_5 rfl
    refine BkImages.add_c h6.bk h6.kI h6.Bw (xs := R) (oc6.le (by omega)) (by omega) (by rw [e3]; exact one_slice) (fun g hg e => by
      have q1 := (oc4.lt hg).1
      have q2 := (oc4.lt hg).2
      rcases hs6 g e with q3 | q3 | q3
      · rw [hne5 10 (by decide) (by decide), hne5 11 (by decide) (by decide)] at q3
        have := (h.kI.lt q3).2
        omega
      · have := (ob3.lt q3).2; omega
      · omega) fun u7 f7 pI7 qI7 hb7 hne7 hk7 _ k7 => ?_
    have ko7 := BkImages.addKO h6.bk h6.Bb h6.kI k7
    have h7 := h6.addI hb7 hne7 hk7 ko7
    have oa7 := ko7.own oa6 fun _ => rfl
    have ob7 := ko7.own ob6 fun _ => rfl
    have oc7 := ko7.own oc6 fun _ => rfl
    have ob_7 := ko7.blk ob_6 rfl
    have q1 : Sh.cel u7 bo 1 = some (.int .i64 x) := cel_b ob_7 1
    simp only [stp, Nat.reduceAdd, Int.reduceLT, Int.reduceLE, Int.reduceEq, Int.reduceNe, ne_eq, bne_self_eq_false, beq_self_eq_true, stm, q1, Option.isSome_some, Option.getD_some]
    refine twrote_c' h7.tx ?_
    simp only [stp, Nat.reduceAdd, Int.reduceLT, Int.reduceLE, Int.reduceEq, Int.reduceNe, ne_eq, bne_self_eq_false, beq_self_eq_true, stm]
    refine lpc2 W.length (by omega) (fun k y u' => K0 u7 u' ∧ y = .bool ((W.take k).any fun p => decide (p.1 = x))) ⟨K0.refl _, rfl⟩ (fun k y u8 hk ⟨k8, hy⟩ J6 hJ6 => ?_) (fun y u8 ⟨k8, hy⟩ J6 => ?_)
    · intro _j
      subst hy
      have hk' : ((k : Int) < (W.length : Int)) := by omega
      have hW := (h7.ow.keep k8 fun _ _ => id).rd
      rw [ew] at hW
      obtain ⟨g, o, eg, r0, r1, r2⟩ := im_at hW hk
      have q1 : Sh.cel u8 bo 1 = some (.int .i64 x) := cel_b (k8.blk ob_7 id) 1
      have kd := (K0.refl u8).drew
      rw [ew, eg]
      simp only [stp, Nat.reduceAdd, Int.reduceLT, Int.reduceLE, Int.reduceEq, Int.reduceNe, ne_eq, bne_self_eq_false, beq_self_eq_true, hk']
      refine jn1 (fun y u' => K0 u7 u' ∧ y = .bool ((W.take (k + 1)).any fun p => decide (p.1 = x))) (fun J7 hJ7 => ?_) ?_
      · by_cases e : W[k].1 = x
        · have hl := (hp.sw.val _ (List.getElem_mem hk)).2
          rw [e] at hl
          simp only [stp, Nat.reduceAdd, Int.reduceLT, Int.reduceLE, Int.reduceEq, Int.reduceNe, ne_eq, bne_self_eq_false, beq_self_eq_true, stm, ix_131 hk, cel_drew, r0, r1, r2, q1, e, hl, ne_eq, not_true_eq_false, decide_false, bne_self_eq_false, Option.isSome_some, Option.getD_some]
          exact hJ7 _ _ ⟨k8.trans kd, by rw [any_take hk, e]; simp⟩
        · simp only [stp, Nat.reduceAdd, Int.reduceLT, Int.reduceLE, Int.reduceEq, Int.reduceNe, ne_eq, bne_self_eq_false, beq_self_eq_true, stm, ix_131 hk, cel_drew, r0, r1, r2, q1, e, Option.isSome_some, Option.getD_some]
          exact hJ7 _ _ ⟨k8.trans kd, by rw [any_take hk, decide_eq_false e, Bool.or_false]⟩
      · rintro y u9 ⟨k9, rfl⟩ _j
        try simp only [stp, Nat.reduceAdd, Int.reduceLT, Int.reduceLE, Int.reduceEq, Int.reduceNe, ne_eq, bne_self_eq_false, beq_self_eq_true]
        exact hJ6 _ _ ⟨k9, rfl⟩
    · intro _j
      subst hy
      have hk' : ¬ ((W.length : Int) < (W.length : Int)) := by omega
      rw [List.take_length, hp.sw.known]
      have q1 : Sh.cel u8 bo 1 = some (.int .i64 x) := cel_b (k8.blk ob_7 id) 1
      have h8 := h7.k0 k8
      rw [ew]
      simp only [stp, Nat.reduceAdd, Int.reduceLT, Int.reduceLE, Int.reduceEq, Int.reduceNe, ne_eq, bne_self_eq_false, beq_self_eq_true, stm, hk', q1, Option.isSome_some, Option.getD_some]
      refine mayread_c h8.tx fun u9 k9 => ?_
      have h9 := h8.k0 k9
      simp only [stp, Nat.reduceAdd, Int.reduceLT, Int.reduceLE, Int.reduceEq, Int.reduceNe, ne_eq, bne_self_eq_false, beq_self_eq_true, stm, ne_eq, not_true_eq_false, decide_false, bne_self_eq_false]
      refine rlocks_c h9.lk (by omega) fun u10 v10 o10 k10 => ?_
      have k8_10 := (k8.trans k9).trans k10
      refine BkLocks.same_c (a := asLocks s.l) (b := asLocks s.l) (oa7.keep k8_10 fun _ _ => id).rd o10.rd (by rw [asLocks_len]; omega) fun u11 k11 => ?_
      have k8_11 := k8_10.trans k11
      have h11 := h7.k0 k8_11
      simp only [stp, Nat.reduceAdd, Int.reduceLT, Int.reduceLE, Int.reduceEq, Int.reduceNe, ne_eq, bne_self_eq_false, beq_self_eq_true, stm, decide_true]
      rw [← ew]
      refine BkImages.same_c (a := W) (b := W) (ob7.keep k8_11 fun _ _ => id).rd h11.ow.rd (by omega) fun u12 k12 => ?_
      have k8_12 := k8_11.trans k12
      have h12 := h7.k0 k8_12
      simp only [stp, Nat.reduceAdd, Int.reduceLT, Int.reduceLE, Int.reduceEq, Int.reduceNe, ne_eq, bne_self_eq_false, beq_self_eq_true, stm, decide_true]
      refine BkImages.same_c (a := R) (b := R) (oc7.keep k8_12 fun _ _ => id).rd h12.orr.rd (by omega) fun u13 k13 => ?_
      have h13 := h12.k0 k13
      simp only [stp, Nat.reduceAdd, Int.reduceLT, Int.reduceLE, Int.reduceEq, Int.reduceNe, ne_eq, bne_self_eq_false, beq_self_eq_true, stm, decide_true]
      refine tblocks_c h13.tx ?_
      rw [ew, ← hwr]
      simp only [stp, Nat.reduceAdd, Int.reduceLT, Int.reduceLE, Int.reduceEq, Int.reduceNe, ne_eq, bne_self_eq_false, beq_self_eq_true, stm, ne_eq, not_true_eq_false, decide_false, bne_self_eq_false]
      rw [← ew]
      exact hJ _ _ _ _ _ _ h13
theorem wrS_l (x : Int) (d : ByteArray) : (wrS s x d).l = s.l := by unfold wrS; split <;> rfl
theorem wrS_sh (x : Int) (d : ByteArray) : (wrS s x d).sh = s.sh := by unfold wrS; split <;> rfl
theorem rdS_l (x : Int) (d : ByteArray) : (rdS s x d).l = s.l := by unfold rdS; split <;> rfl
theorem rdS_sh (x : Int) (d : ByteArray) : (rdS s x d).sh = s.sh := by unfold rdS; split <;> rfl
theorem rdS_wr (x : Int) (d : ByteArray) : (rdS s x d).wr = s.wr := by unfold rdS; split <;> rfl
theorem rdS_rd (x : Int) (d : ByteArray) : (rdS s x d).rd = if (lkp x s.rd).isSome then s.rd else puA x d s.rd := by unfold rdS; split <;> rfl
theorem puA_wf {x : Int} {v : ByteArray} {m : TL} (h : ∀ p ∈ m, (Lit.int .i64 p.1).wf = true) (hx : (Lit.int .i64 x).wf = true) : ∀ p ∈ puA x v m, (Lit.int .i64 p.1).wf = true := fun p hp => by
  have : p.1 ∈ (puA x v m).map (·.1) := List.mem_map.2 ⟨p, hp, rfl⟩
  cases hl : lkp x m with
  | some u =>
    rw [puA_keys (by rw [hl]; rfl)] at this
    obtain ⟨q, hq, e⟩ := List.mem_map.1 this
    rw [← e]; exact h q hq
  | none =>
    rw [puA_keys' hl] at this
    rcases List.mem_append.1 this with h1 | h1
    · obtain ⟨q, hq, e⟩ := List.mem_map.1 h1
      rw [← e]; exact h q hq
    · rw [List.mem_singleton.1 h1]; exact hx
theorem plays_step {J : Cur 4} {kd x : Int} {d : ByteArray} {u : World} (h : TP w0 B u b t s vl vw vr W R f pL qL pI qI) (hp : TPl s W R i) (hi : i < 60)
    (ob : blk u bo = some (.cells #[.int .i64 kd, .int .i64 x, .string d] 133)) (hd : d.size ≤ 300) (hx : (Lit.int .i64 x).wf = true)
    (hJ : ∀ u' s' vl' vw' vr' W' R' f' pL' qL' pI' qI', TP w0 B u' b t s' vl' vw' vr' W' R' f' pL' qL' pI' qI' → TPl s' W' R' (i + 1) → s'.sh = s.sh → J vl' vw' vr' (.int .i64 (IntKind.i64.wrap ((i : Int) + 1))) u') :
    P7_2 J (.int .i64 ((valB s.l x).getD 0)) (.bool (valB s.l x).isSome) (.string (if 96 < d.size then ⟨#[]⟩ else padF d)) (.int .i64 (if 96 < d.size then 2 else 0)) (.pointer (some ⟨bo, 0, none⟩)) (.pointer (some ⟨t, 0, none⟩)) (.pointer (some ⟨b, 0, none⟩)) (.int .i64 (min (mostF s.sh.log) s.sh.cache)) (.int .i64 (i : Int)) (.bool (lkp x s.wr).isSome) vl vr vw u Q := by
  unfold P7_2
  have hcl := h.tx.canon
  have hlen := hp.ch.len hcl
  have hlw := hp.lw
  have hlr := hp.lr
  have hwr := hp.sw.len
  have hrd := hp.sr.len
  have d0 : Sh.cel u bo 0 = some (.int .i64 kd) := cel_b ob 0
  have d1 : Sh.cel u bo 1 = some (.int .i64 x) := cel_b ob 1
  have d2 : Sh.cel u bo 2 = some (.string d) := cel_b ob 2
  have hx' : -9223372036854775808 ≤ x ∧ x ≤ 9223372036854775807 := by simpa [Lit.wf, IntKind.min, IntKind.max, IntKind.signed, IntKind.bits] using hx
  refine jn3 (fun y0 y1 y2 u' => ∃ s' W' R', TP w0 B u' b t s' y0 y1 y2 W' R' f pL qL pI qI ∧ TPl s' W' R' (i + 1) ∧ s'.sh = s.sh ∧ blk u' bo = some (.cells #[.int .i64 kd, .int .i64 x, .string d] 133)) (fun J3 hJ3 => ?_) ?_
  rotate_left
  · rintro y0 y1 y2 u' ⟨s', W', R', h', hp', hsh, ob'⟩ _j
    exact plays_tail h' hp' hi ob' fun u'' f' pL' qL' pI' qI' h'' => hJ _ _ _ _ _ _ _ _ _ _ _ _ h'' hp' hsh
  have same : TPl s W R (i + 1) := { hp with lw := by omega, lr := by omega, ch := hp.ch.mono (by omega) }
  by_cases e1 : kd = 1
  · simp only [stp, Nat.reduceAdd, Int.reduceLT, Int.reduceLE, Int.reduceEq, Int.reduceNe, ne_eq, bne_self_eq_false, beq_self_eq_true, stm, d0, e1, Option.isSome_some, Option.getD_some]
    refine jn1 (fun y u' => y = .int .i64 (wrC s x d) ∧ u' = u) (fun J4 hJ4 => ?_) ?_
    · cases hv : valB s.l x with
      | none =>
        simp only [stp, Nat.reduceAdd, Int.reduceLT, Int.reduceLE, Int.reduceEq, Int.reduceNe, ne_eq, bne_self_eq_false, beq_self_eq_true, stm, Option.isSome_none, Bool.not_false]
        exact hJ4 _ _ ⟨by unfold wrC; rw [if_pos hv], rfl⟩
      | some md =>
        have n1 : ¬ valB s.l x = none := by rw [hv]; simp
        by_cases h96 : 96 < d.size
        · simp only [stp, Nat.reduceAdd, Int.reduceLT, Int.reduceLE, Int.reduceEq, Int.reduceNe, ne_eq, bne_self_eq_false, beq_self_eq_true, stm, h96, if_true, Option.isSome_some, Option.getD_some, Bool.not_true]
          exact hJ4 _ _ ⟨by unfold wrC; rw [if_neg n1, if_pos h96], rfl⟩
        · by_cases h2 : md = 2
          · have n2 : ¬ valB s.l x ≠ some 2 := by rw [hv, h2]; simp
            cases hk : lkp x s.wr with
            | some z =>
              have n3 : ¬ ((lkp x s.wr).isNone = true ∧ min (mostF s.sh.log) s.sh.cache ≤ (s.wr.length : Int)) := by rw [hk]; simp
              simp only [stp, Nat.reduceAdd, Int.reduceLT, Int.reduceLE, Int.reduceEq, Int.reduceNe, ne_eq, bne_self_eq_false, beq_self_eq_true, stm, h96, h2, if_false, Option.isSome_some, Option.getD_some, Bool.not_true]
              exact hJ4 _ _ ⟨by unfold wrC; rw [if_neg n1, if_neg h96, if_neg n2, if_neg n3], rfl⟩
            | none =>
              obtain ⟨pw, cw, ew⟩ := h.ow.form
              by_cases hge : min (mostF s.sh.log) s.sh.cache ≤ (W.length : Int)
              · have n3 : (lkp x s.wr).isNone = true ∧ min (mostF s.sh.log) s.sh.cache ≤ (s.wr.length : Int) := ⟨by rw [hk]; rfl, by rw [← hwr]; exact hge⟩
                rw [ew]
                simp only [stp, Nat.reduceAdd, Int.reduceLT, Int.reduceLE, Int.reduceEq, Int.reduceNe, ne_eq, bne_self_eq_false, beq_self_eq_true, stm, h96, h2, hge, if_false, Option.isSome_some, Option.isSome_none, Option.getD_some, Bool.not_true, Bool.not_false]
                exact hJ4 _ _ ⟨by unfold wrC; rw [if_neg n1, if_neg h96, if_neg n2, if_pos n3], rfl⟩
              · have n3 : ¬ ((lkp x s.wr).isNone = true ∧ min (mostF s.sh.log) s.sh.cache ≤ (s.wr.length : Int)) := fun hh => hge (by rw [hwr]; exact hh.2)
                rw [ew]
                simp only [stp, Nat.reduceAdd, Int.reduceLT, Int.reduceLE, Int.reduceEq, Int.reduceNe, ne_eq, bne_self_eq_false, beq_self_eq_true, stm, h96, h2, hge, if_false, Option.isSome_some, Option.isSome_none, Option.getD_some, Bool.not_true, Bool.not_false]
                exact hJ4 _ _ ⟨by unfold wrC; rw [if_neg n1, if_neg h96, if_neg n2, if_neg n3], rfl⟩
          · have n2 : valB s.l x ≠ some 2 := by rw [hv]; simpa using h2
            simp only [stp, Nat.reduceAdd, Int.reduceLT, Int.reduceLE, Int.reduceEq, Int.reduceNe, ne_eq, bne_self_eq_false, beq_self_eq_true, stm, h96, h2, if_false, Option.isSome_some, Option.getD_some, Bool.not_true]
            exact hJ4 _ _ ⟨by unfold wrC; rw [if_neg n1, if_neg h96, if_pos n2], rfl⟩
    · rintro y u' ⟨rfl, rfl⟩ _j
      simp only [stp, Nat.reduceAdd, Int.reduceLT, Int.reduceLE, Int.reduceEq, Int.reduceNe, ne_eq, bne_self_eq_false, beq_self_eq_true, stm, d1, d2, Option.isSome_some, Option.getD_some]
      refine twrite_c h.tx (by omega) (by omega) fun u2 tx2 ko => ?_
      have h2 := h.turn tx2 (wrS_l x d) ko
      have ob2 := ko.blk ob rfl
      have q1 : Sh.cel u2 bo 1 = some (.int .i64 x) := cel_b ob2 1
      by_cases hc : wrC s x d = 0
      · have h96 : ¬ 96 < d.size := fun e => by
          unfold wrC at hc
          by_cases hn : valB s.l x = none
          · rw [if_pos hn] at hc; cases hc
          · rw [if_neg hn, if_pos e] at hc; cases hc
        have es : wrS s x d = { s with wr := puA x (padF d) s.wr } := by unfold wrS; rw [if_pos hc]
        simp only [stp, Nat.reduceAdd, Int.reduceLT, Int.reduceLE, Int.reduceEq, Int.reduceNe, ne_eq, bne_self_eq_false, beq_self_eq_true, stm, hc, q1, h96, if_false, ne_eq, not_true_eq_false, decide_false, bne_self_eq_false, Option.isSome_some, Option.getD_some]
        refine put_c (x := (x, 0, padF d)) h2.ow h2.Bw (by omega) fun u3 v3 o3 k3 => ?_
        have h3 := h2.k0 k3
        have hpl := putL_len (x, 0, padF d) true W
        refine hJ3 _ _ _ _ ⟨wrS s x d, _, R, { h3 with ow := o3 }, ?_, wrS_sh x d, k3.blk ob2 id⟩
        rw [es]
        exact { same with sw := hp.sw.put x (padF d), lw := by omega, wf1 := puA_wf hp.wf1 hx }
      · have es : wrS s x d = s := by unfold wrS; rw [if_neg hc]
        simp only [stp, Nat.reduceAdd, Int.reduceLT, Int.reduceLE, Int.reduceEq, Int.reduceNe, ne_eq, bne_self_eq_false, beq_self_eq_true, stm, hc, ne_eq, not_true_eq_false, decide_false, bne_self_eq_false]
        rw [es] at h2
        exact hJ3 _ _ _ _ ⟨s, W, R, h2, same, rfl, ob2⟩
  by_cases e2 : kd = 2
  · simp only [stp, Nat.reduceAdd, Int.reduceLT, Int.reduceLE, Int.reduceEq, Int.reduceNe, ne_eq, bne_self_eq_false, beq_self_eq_true, stm, d0, d1, d2, e1, e2, Option.isSome_some, Option.getD_some]
    refine tmark_c h.tx (by omega) fun u2 tx2 ko => ?_
    have h2 := h.turn tx2 (rdS_l x d) ko
    have ob2 := ko.blk ob rfl
    have q1 : Sh.cel u2 bo 1 = some (.int .i64 x) := cel_b ob2 1
    have q2 : Sh.cel u2 bo 2 = some (.string d) := cel_b ob2 2
    simp only [stp, Nat.reduceAdd, Int.reduceLT, Int.reduceLE, Int.reduceEq, Int.reduceNe, ne_eq, bne_self_eq_false, beq_self_eq_true, stm, q1, q2, Option.isSome_some, Option.getD_some]
    refine put_c (x := (x, 0, d)) h2.orr h2.Bw (by omega) fun u3 v3 o3 k3 => ?_
    have h3 := h2.k0 k3
    have hpl := putL_len (x, 0, d) false R
    refine hJ3 _ _ _ _ ⟨rdS s x d, W, _, { h3 with orr := o3 }, ?_, rdS_sh x d, k3.blk ob2 id⟩
    exact
      { sw := by rw [rdS_wr]; exact hp.sw
        sr := by rw [rdS_rd]; exact hp.sr.mark x d
        lw := by omega
        lr := by omega
        rng := by rw [rdS_l]; exact hp.rng
        ch := by rw [rdS_l]; exact same.ch
        wf1 := by rw [rdS_wr]; exact hp.wf1
        wf2 := by
          rw [rdS_rd]
          split
          · exact hp.wf2
          · exact puA_wf hp.wf2 hx }
  · simp only [stp, Nat.reduceAdd, Int.reduceLT, Int.reduceLE, Int.reduceEq, Int.reduceNe, ne_eq, bne_self_eq_false, beq_self_eq_true, stm, d0, d1, e1, e2, Option.isSome_some, Option.getD_some]
    refine tneeds_c h.tx (fun hv => by have := (hp.rng x 1 hv).1; omega) hx'.1 (fun u2 hv k2 => ?_) (fun u2 hv k2 => ?_)
    · have hr := (hp.rng x 1 hv).1
      have h2 := h.k0 k2
      have ob2 := k2.blk ob id
      have ew : IntKind.i64.wrap (x + 1) = x + 1 := wrap_id (by omega) (by omega)
      simp only [stp, Nat.reduceAdd, Int.reduceLT, Int.reduceLE, Int.reduceEq, Int.reduceNe, ne_eq, bne_self_eq_false, beq_self_eq_true, stm, hv, Option.isSome_some, Option.getD_some, decide_true]
      have ka := (K0.refl u2).alloc (.cells #[.int .i64 x, .int .i64 (x + 1), .int .i64 2] 143)
      have bl : blk (u2.alloc (.cells #[.int .i64 x, .int .i64 (x + 1), .int .i64 2] 143)) (siz u2) = some (.cells #[.int .i64 x, .int .i64 (x + 1), .int .i64 2] 143) := blk_alloc_new
      have h3 := h2.k0 ka
      have ob3 := ka.blk ob2 id
      generalize u2.alloc (.cells #[.int .i64 x, .int .i64 (x + 1), .int .i64 2] 143) = u3 at ka bl h3 ob3
      have q1 : Sh.cel u3 bo 1 = some (.int .i64 x) := cel_b ob3 1
      have l0 : Sh.cel u3 (siz u2) 0 = some (.int .i64 x) := cel_b bl 0
      have l1 : Sh.cel u3 (siz u2) 1 = some (.int .i64 (x + 1)) := cel_b bl 1
      have l2 : Sh.cel u3 (siz u2) 2 = some (.int .i64 2) := cel_b bl 2
      try simp only [stp, Nat.reduceAdd, Int.reduceLT, Int.reduceLE, Int.reduceEq, Int.reduceNe, ne_eq, bne_self_eq_false, beq_self_eq_true, stm, q1, l0, l1, l2, ew, decide_true, Bool.and_self, Bool.not_true, bne_self_eq_false, Option.isSome_some, Option.getD_some]
      refine tgrow_c h3.tx (fun y v hy => (hp.rng y v hy).1) hx'.1 (fun u4 l' _ hl' tx4 ko => ?_) (fun u4 hn _ => absurd hv hn) (by omega)
      have bl4 := ko.blk bl rfl
      have ob4 := ko.blk ob3 rfl
      have l0 : Sh.cel u4 (siz u2) 0 = some (.int .i64 x) := cel_b bl4 0
      have l1 : Sh.cel u4 (siz u2) 1 = some (.int .i64 (x + 1)) := cel_b bl4 1
      have l2 : Sh.cel u4 (siz u2) 2 = some (.int .i64 2) := cel_b bl4 2
      simp only [stp, Nat.reduceAdd, Int.reduceLT, Int.reduceLE, Int.reduceEq, Int.reduceNe, ne_eq, bne_self_eq_false, beq_self_eq_true, stm, l0, l1, l2, bne_self_eq_false, Option.isSome_some, Option.getD_some]
      refine rraise_c (k := (x, x + 1, 2)) (ko.own h3.lk fun _ => rfl) (Nat.le_trans h3.Bw ko.size) hcl (fun p hp' => ?_) (by omega) fun u5 v5 l5 o5 hc5 hv5 k5 => ?_
      · have := valB_mem hcl.apart hp' ⟨hcl.1 p hp', Int.le_refl _, (hcl.1 p hp').2⟩
        exact (hp.rng _ _ this).2
      · have e5 : ∀ y, valB l5 y = if y = x then some 2 else valB s.l y := fun y => by
          rw [hv5]
          unfold ask1
          rw [if_pos (show isM (x, x + 1, 2) from .inr rfl)]
          unfold updM
          by_cases hy : y = x
          · subst hy
            rw [if_pos rfl, if_pos (show hasB (y, y + 1) y from ⟨⟨by dsimp only; omega, by dsimp only; omega⟩, by dsimp only; omega, by dsimp only; omega⟩), hv]; rfl
          · rw [if_neg hy, if_neg (fun hh => by have h6 := hh.2.1; have h7 := hh.2.2; dsimp only at h6 h7; omega)]
        have el : l5 = l' := canon_unique _ _ hc5 tx4.canon fun y => by rw [e5, hl']
        subst el
        have h5 := h3.grow (vl' := v5) (tx4.keep0 k5) o5 (ko.trans (KO.of0 k5))
        refine hJ3 _ _ _ _ ⟨{ s with l := l5 }, W, R, h5, ?_, rfl, k5.blk ob4 id⟩
        have hxx : ∀ y, hasB (x, x + 1) y ↔ y = x := fun y => ⟨fun hh => by have h6 := hh.2.1; have h7 := hh.2.2; dsimp only at h6 h7; omega, fun e => ⟨⟨by dsimp only; omega, by dsimp only; omega⟩, by dsimp only; omega, by dsimp only; omega⟩⟩
        refine { same with rng := fun y v hy => ?_, ch := (hp.ch.upd (s := (x, x + 1)) (g := fun _ => some 2) fun y => ?_).mono (by omega) }
        · have hy : valB l5 y = some v := hy
          rw [e5] at hy
          split at hy
          · next e => subst e; injection hy with hy; exact ⟨hr, .inr hy.symm⟩
          · exact hp.rng y v hy
        · show valB l5 y = _
          rw [e5]
          by_cases hy : y = x
          · rw [if_pos hy, if_pos ((hxx y).2 hy)]
          · rw [if_neg hy, if_neg (fun hh => hy ((hxx y).1 hh))]
    · have h2 := h.k0 k2
      have ob2 := k2.blk ob id
      have ka := (K0.refl u2).alloc (.cells #[.int .i64 0, .int .i64 0, .int .i64 0] 143)
      have h3 := h2.k0 ka
      have ob3 := ka.blk ob2 id
      have q1 : Sh.cel (u2.alloc (.cells #[.int .i64 0, .int .i64 0, .int .i64 0] 143)) bo 1 = some (.int .i64 x) := cel_b ob3 1
      have fin : J3 vl vw vr (u2.alloc (.cells #[.int .i64 0, .int .i64 0, .int .i64 0] 143)) → True := fun _ => trivial
      cases hv1 : valB s.l x with
      | none =>
        simp only [stp, Nat.reduceAdd, Int.reduceLT, Int.reduceLE, Int.reduceEq, Int.reduceNe, ne_eq, bne_self_eq_false, beq_self_eq_true, stm, Option.isSome_none, Option.getD_none, bne_self_eq_false, q1, Option.isSome_some, Option.getD_some]
        refine tgrow_c h3.tx (fun y v hy => (hp.rng y v hy).1) hx'.1 (fun u4 l' h1 _ _ _ => absurd h1 hv) (fun u4 _ k4 => ?_) (by omega)
        simp only [stp, Nat.reduceAdd, Int.reduceLT, Int.reduceLE, Int.reduceEq, Int.reduceNe, ne_eq, bne_self_eq_false, beq_self_eq_true, stm, bne_self_eq_false]
        exact hJ3 _ _ _ _ ⟨s, W, R, h3.k0 k4, same, rfl, k4.blk ob3 id⟩
      | some md =>
        have hmd : ¬ md = 1 := fun e => hv (by rw [hv1, e])
        simp only [stp, Nat.reduceAdd, Int.reduceLT, Int.reduceLE, Int.reduceEq, Int.reduceNe, ne_eq, bne_self_eq_false, beq_self_eq_true, stm, hmd, decide_false, bne_self_eq_false, q1, Option.isSome_some, Option.getD_some]
        refine tgrow_c h3.tx (fun y v hy => (hp.rng y v hy).1) hx'.1 (fun u4 l' h1 _ _ _ => absurd h1 hv) (fun u4 _ k4 => ?_) (by omega)
        simp only [stp, Nat.reduceAdd, Int.reduceLT, Int.reduceLE, Int.reduceEq, Int.reduceNe, ne_eq, bne_self_eq_false, beq_self_eq_true, stm, bne_self_eq_false]
        exact hJ3 _ _ _ _ ⟨s, W, R, h3.k0 k4, same, rfl, k4.blk ob3 id⟩
theorem opo_at {v : Value} {L : List OpT} {i : Nat} (h : Rd 3 w v L.length (flat encO L)) (hi : i < L.length) : ∃ g o c, v = .slice (some ⟨g, o, none⟩) L.length c ∧
    Sh.cel w g (o + i * 3) = some (.int .i64 L[i].1) ∧ Sh.cel w g (o + i * 3 + 1) = some (.int .i64 L[i].2.1) ∧ Sh.cel w g (o + i * 3 + 2) = some (.string L[i].2.2) := by
  obtain ⟨g, o, c, e, _, hc⟩ := h.at (by omega)
  have hL := List.getElem?_eq_getElem hi
  have get : ∀ k, k < 3 → (flat encO L)[i * 3 + k]? = (encO L[i])[k]? := fun k hk => flat_get encO_len hL hk
  exact ⟨g, o, c, e, by rw [hc _ (by omega), ← Nat.add_zero (i * 3), get 0 (by omega)]; rfl, by rw [Nat.add_assoc, hc _ (by omega), get 1 (by omega)]; rfl, by rw [Nat.add_assoc, hc _ (by omega), get 2 (by omega)]; rfl⟩
theorem plays_loop {po : Option Addr} {co : Nat} {ops : List OpT} {u : World} (h : TP w0 B u b t s vl (.slice none 0 0) (.slice none 0 0) [] [] f pL qL pI qI) (hp : TPl s [] [] 0)
    (hops : ∀ {u' : World}, Keep (fun g => B ≤ g) w0 u' → Rd 3 u' (.slice po ops.length co) ops.length (flat encO ops)) (hg : ∀ o ∈ ops, goodO o) (hl : ops.length ≤ 60) (hq : ∀ w', Keep (fun g => B ≤ g) w0 w' → Q (.bool true) w') :
    P7_1 (.pointer (some ⟨t, 0, none⟩)) vl (.pointer (some ⟨b, 0, none⟩)) (.int .i64 (min (mostF s.sh.log) s.sh.cache)) (.slice po ops.length co) u Q := by
  unfold P7_1
  refine lp4 (fun m x0 x1 x2 x3 u' => ∃ i : Nat, x3 = .int .i64 (i : Int) ∧ i ≤ ops.length ∧ m = ops.length - i ∧ ∃ s' W R f pL qL pI qI, TP w0 B u' b t s' x0 x1 x2 W R f pL qL pI qI ∧ TPl s' W R i ∧ s'.sh = s.sh) ops.length
    ⟨0, rfl, Nat.zero_le _, rfl, s, [], [], f, pL, qL, pI, qI, h, hp, rfl⟩ ?_
  rintro m x0 x1 x2 x3 u1 ⟨i, rfl, hi, rfl, s', W, R, f, pL, qL, pI, qI, h1, hp1, hsh⟩ J hJ _j
  by_cases hlt : i < ops.length
  · have hlt' : ((i : Int) < (ops.length : Int)) := by omega
    obtain ⟨g, o, c', e, q0, q1, q2⟩ := opo_at (hops h1.kp) hlt
    injection e with e1 _ e2
    subst e1 e2
    have hgo := hg _ (List.getElem_mem hlt)
    simp only [stp, Nat.reduceAdd, Int.reduceLT, Int.reduceLE, Int.reduceEq, Int.reduceNe, ne_eq, bne_self_eq_false, beq_self_eq_true, hlt']
    rw [ix_123 hlt]
    simp only [stp, Nat.reduceAdd, Int.reduceLT, Int.reduceLE, Int.reduceEq, Int.reduceNe, ne_eq, bne_self_eq_false, beq_self_eq_true, stm, q0, q1, q2, Option.isSome_some, Option.getD_some]
    generalize ops[i] = op at q0 q1 q2 hgo
    obtain ⟨kd, x, d⟩ := op
    obtain ⟨_, hx, _⟩ := hgo
    dsimp only at q0 q1 q2 hx ⊢
    have ka := (K0.refl u1).alloc (.cells #[.int .i64 kd, .int .i64 x, .string d] 133)
    have ob : blk (u1.alloc (.cells #[.int .i64 kd, .int .i64 x, .string d] 133)) (siz u1) = some (.cells #[.int .i64 kd, .int .i64 x, .string d] 133) := blk_alloc_new
    have h2 := h1.k0 ka
    generalize u1.alloc (.cells #[.int .i64 kd, .int .i64 x, .string d] 133) = u2 at ka ob h2
    generalize siz u1 = bo at ob
    have d1 : Sh.cel u2 bo 1 = some (.int .i64 x) := cel_b ob 1
    have d2 : Sh.cel u2 bo 2 = some (.string d) := cel_b ob 2
    by_cases hbig : (300 : Int) < (d.size : Int)
    · simp only [stp, Nat.reduceAdd, Int.reduceLT, Int.reduceLE, Int.reduceEq, Int.reduceNe, ne_eq, bne_self_eq_false, beq_self_eq_true, stm, d2, hbig, Option.isSome_some, Option.getD_some]
      exact hq _ h2.kp
    have hcl := h2.tx.canon
    have hlen := hp1.ch.len hcl
    have hlw := hp1.lw
    simp only [stp, Nat.reduceAdd, Int.reduceLT, Int.reduceLE, Int.reduceEq, Int.reduceNe, ne_eq, bne_self_eq_false, beq_self_eq_true, stm, d1, d2, hbig, Option.isSome_some, Option.getD_some]
    refine rget_c (x := x) h2.lk hcl (by omega) fun u3 k3 => ?_
    have h3 := h2.k0 k3
    have ob3 := k3.blk ob id
    have d2 : Sh.cel u3 bo 2 = some (.string d) := cel_b ob3 2
    simp only [stp, Nat.reduceAdd, Int.reduceLT, Int.reduceLE, Int.reduceEq, Int.reduceNe, ne_eq, bne_self_eq_false, beq_self_eq_true, stm, d2, Option.isSome_some, Option.getD_some]
    refine rpad_d (by omega) fun u4 k4 => ?_
    have h4 := h3.k0 k4
    have ob4 := k4.blk ob3 id
    simp only [stp, Nat.reduceAdd, Int.reduceLT, Int.reduceLE, Int.reduceEq, Int.reduceNe, ne_eq, bne_self_eq_false, beq_self_eq_true, stm]
    obtain ⟨pw, cw, ew⟩ := h4.ow.form
    refine lpc2 W.length (by omega) (fun k y u' => K0 u4 u' ∧ y = .bool ((W.take k).any fun p => decide (p.1 = x))) ⟨K0.refl _, rfl⟩ (fun k y u5 hk ⟨k5, hy⟩ J2 hJ2 => ?_) (fun y u5 ⟨k5, hy⟩ J2 => ?_)
    · intro _j
      subst hy
      have hk' : ((k : Int) < (W.length : Int)) := by omega
      have hW := (h4.ow.keep k5 fun _ _ => id).rd
      rw [ew] at hW
      obtain ⟨g, o, eg, r0, r1, r2⟩ := im_at hW hk
      have q1 : Sh.cel u5 bo 1 = some (.int .i64 x) := cel_b (k5.blk ob4 id) 1
      have kd := (K0.refl u5).drew
      rw [ew, eg]
      cases hkn : ((W.take k).any fun p => decide (p.1 = x)) with
      | true =>
        simp only [stp, Nat.reduceAdd, Int.reduceLT, Int.reduceLE, Int.reduceEq, Int.reduceNe, ne_eq, bne_self_eq_false, beq_self_eq_true, stm, hk']
        exact hJ2 _ _ ⟨k5.trans kd, by rw [any_take hk, hkn]; rfl⟩
      | false =>
        by_cases e : W[k].1 = x
        · simp only [stp, Nat.reduceAdd, Int.reduceLT, Int.reduceLE, Int.reduceEq, Int.reduceNe, ne_eq, bne_self_eq_false, beq_self_eq_true, stm, hk', ix_131 hk, cel_drew, r0, q1, e, decide_true, Option.isSome_some, Option.getD_some]
          exact hJ2 _ _ ⟨k5.trans kd, by rw [any_take hk, hkn, e]; simp⟩
        · simp only [stp, Nat.reduceAdd, Int.reduceLT, Int.reduceLE, Int.reduceEq, Int.reduceNe, ne_eq, bne_self_eq_false, beq_self_eq_true, stm, hk', ix_131 hk, cel_drew, r0, q1, e, decide_false, Option.isSome_some, Option.getD_some]
          exact hJ2 _ _ ⟨k5.trans kd, by rw [any_take hk, hkn, decide_eq_false e]; rfl⟩
    · intro _j
      subst hy
      have hk' : ¬ ((W.length : Int) < (W.length : Int)) := by omega
      rw [List.take_length, hp1.sw.known, ew]
      simp only [stp, Nat.reduceAdd, Int.reduceLT, Int.reduceLE, Int.reduceEq, Int.reduceNe, ne_eq, bne_self_eq_false, beq_self_eq_true, hk']
      rw [← ew, ← hsh]
      refine plays_step (h4.k0 k5) hp1 (by omega) (k5.blk ob4 id) (by omega) hx fun u' s'' vl' vw' vr' W' R' f' pL' qL' pI' qI' h' hp' hsh' => ?_
      exact hJ (ops.length - (i + 1)) _ _ _ _ _ (by omega) ⟨i + 1, by rw [wrap_succ (by omega)], by omega, rfl, s'', W', R', f', pL', qL', pI', qI', h', hp', hsh'.trans hsh⟩
  · have hlt' : ¬ ((i : Int) < (ops.length : Int)) := by omega
    simp only [stp, Nat.reduceAdd, Int.reduceLT, Int.reduceLE, Int.reduceEq, Int.reduceNe, ne_eq, bne_self_eq_false, beq_self_eq_true, hlt']
    refine alive_c fun u2 k2 => ?_
    have h2 := h1.k0 k2
    simp only [stp, Nat.reduceAdd, Int.reduceLT, Int.reduceLE, Int.reduceEq, Int.reduceNe, ne_eq, bne_self_eq_false, beq_self_eq_true, stm]
    refine Bk.apart_c h2.bk h2.Bw h2.nf h2.kL h2.kI fun u3 k3 => ?_
    try simp only [stp, Nat.reduceAdd, Int.reduceLT, Int.reduceLE, Int.reduceEq, Int.reduceNe, ne_eq, bne_self_eq_false, beq_self_eq_true, stm]
    exact hq _ (h2.kp.trans k3)
theorem plays_law {p : I5} {own : Bool} {va vo : Value} {l : List I3} {ops : List OpT} (_ : good5 p) (hl : Rd 3 w va l.length (flat enc3 l)) (_ : l.length ≤ maxLen) (_ : ∀ k ∈ l, good3 k)
    (ho : Rd 3 w vo ops.length (flat encO ops)) (_ : ops.length ≤ maxLen) (hg : ∀ o ∈ ops, goodO o) (hq : ∀ w', Keep (fun b => siz w ≤ b) w w' → Q (.bool true) w') :
    callS Tryz.prog 7 #[.agg (enc5 p).toArray, .bool own, va, vo] Q w := by
  refine ref7 ?_
  rw [cut7]
  unfold P7_0
  obtain ⟨sh, hsh⟩ : ∃ sh : Sh5, enc5 p = sh.vals := ⟨⟨p.1, p.2.1, p.2.2.1, p.2.2.2.1, p.2.2.2.2⟩, rfl⟩
  rw [hsh, act_box]
  generalize hw1 : w.alloc _ = w1
  have b1 : blk w1 (siz w) = some (.cells sh.vals.toArray 122) := by rw [← hw1]; exact blk_alloc_new
  have k1 : K0 w w1 := by rw [← hw1]; exact (K0.refl w).alloc _
  obtain ⟨pa, ca, rfl⟩ := hl.form
  obtain ⟨po, co, rfl⟩ := ho.form
  by_cases hb1 : (30 : Int) < (l.length : Int)
  · simp only [stp, Nat.reduceAdd, Int.reduceLT, Int.reduceLE, Int.reduceEq, Int.reduceNe, ne_eq, bne_self_eq_false, beq_self_eq_true, hb1]; exact alive_c fun w' k => hq w' (k1.trans k).none
  by_cases hb2 : (60 : Int) < (ops.length : Int)
  · simp only [stp, Nat.reduceAdd, Int.reduceLT, Int.reduceLE, Int.reduceEq, Int.reduceNe, ne_eq, bne_self_eq_false, beq_self_eq_true, hb1, hb2]; exact alive_c fun w' k => hq w' (k1.trans k).none
  simp only [stp, Nat.reduceAdd, Int.reduceLT, Int.reduceLE, Int.reduceEq, Int.reduceNe, ne_eq, bne_self_eq_false, beq_self_eq_true, hb1, hb2]
  refine jn0 (fun u => ∃ sh' : Sh5, K0 w u ∧ blk u (siz w) = some (.cells sh'.vals.toArray 122)) (fun J hJ => ?_) ?_
  · cases own
    · simp only [stp, Nat.reduceAdd, Int.reduceLT, Int.reduceLE, Int.reduceEq, Int.reduceNe, ne_eq, bne_self_eq_false, beq_self_eq_true, stm]
      exact hJ _ ⟨sh, k1, b1⟩
    · simp only [stp, Nat.reduceAdd, Int.reduceLT, Int.reduceLE, Int.reduceEq, Int.reduceNe, ne_eq, bne_self_eq_false, beq_self_eq_true, stm]
      refine shape_c fun u k => ?_
      have bu := k.blk b1 id
      have e0 : ∀ o, Sh.cel u (siz w) o = sh.vals.toArray[o]? := fun o => cel_b bu o
      have i0 : (Sh.cel u (siz w) 0).isSome = true := by rw [e0]; rfl
      have i1 : (Sh.cel u (siz w) 1).isSome = true := by rw [e0]; rfl
      have i2 : (Sh.cel u (siz w) 2).isSome = true := by rw [e0]; rfl
      have i3 : (Sh.cel u (siz w) 3).isSome = true := by rw [e0]; rfl
      have i4 : (Sh.cel u (siz w) 4).isSome = true := by rw [e0]; rfl
      rw [show (Value.agg shp.vals.toArray) = .agg #[.int .i64 2, .int .i64 10, .int .i64 8, .int .i64 4, .int .i64 32] from rfl]
      simp only [stp, Nat.reduceAdd, Int.reduceLT, Int.reduceLE, Int.reduceEq, Int.reduceNe, ne_eq, bne_self_eq_false, beq_self_eq_true, stm, i0, i1, i2, i3, i4, fre_b bu]
      refine hJ _ ⟨shp, (k1.trans k).stoL _ 0 (.inr (Nat.le_refl _)), ?_⟩
      exact blk_stoL_all (zs := sh.vals) (xs := shp.vals) rfl bu
  · rintro u ⟨sh, ku, bu⟩ _j
    refine BkLocks.lent_c (hl.keep0 ku) (by omega) fun u1 x lx k1 => ?_
    have ld : ∀ {u' : World}, K0 u u' → Sh.cel u' (siz w) 0 = some (.int .i64 sh.nodes) ∧ Sh.cel u' (siz w) 1 = some (.int .i64 sh.blocks) ∧ Sh.cel u' (siz w) 2 = some (.int .i64 sh.log) ∧ Sh.cel u' (siz w) 3 = some (.int .i64 sh.cache) ∧ Sh.cel u' (siz w) 4 = some (.int .i64 sh.lease) := fun {u'} k => by
      have := k.blk bu id
      exact ⟨cel_b this 0, cel_b this 1, cel_b this 2, cel_b this 3, cel_b this 4⟩
    obtain ⟨e0, e1, e2, e3, e4⟩ := ld k1
    simp only [stp, Nat.reduceAdd, Int.reduceLT, Int.reduceLE, Int.reduceEq, Int.reduceNe, ne_eq, bne_self_eq_false, beq_self_eq_true, stm, e0, e1, e2, e3, e4, Option.isSome_some, Option.getD_some]
    refine tnew_c (s := sh) lx.rd (by omega) (fun u2 e hck hne k2 => ?_) (fun u2 t ln hck hbt hvl hll tx2 k2 => ?_)
    · have k02 := k1.trans k2
      obtain ⟨e0, e1, e2, e3, e4⟩ := ld k02
      simp only [stp, Nat.reduceAdd, Int.reduceLT, Int.reduceLE, Int.reduceEq, Int.reduceNe, ne_eq, bne_self_eq_false, beq_self_eq_true, stm, e0, e1, e2, e3, e4, Option.isSome_some, Option.getD_some]
      refine rcheck_c (s := sh) ((hl.keep0 ku).keep0 k02) (by omega) fun u3 e' hck' k3 => ?_
      have ee := ck_unique hck hck'
      subst ee
      have k03 := k02.trans k3
      obtain ⟨e0, e1, e2, e3, e4⟩ := ld k03
      simp only [stp, Nat.reduceAdd, Int.reduceLT, Int.reduceLE, Int.reduceEq, Int.reduceNe, ne_eq, bne_self_eq_false, beq_self_eq_true, stm, e0, e1, e2, e3, e4, ne_eq, not_true_eq_false, decide_false, bne_self_eq_false, Option.isSome_some, Option.getD_some]
      refine tcheck_c (s := sh) ((lx.keep0 k2).keep0 k3).rd (by omega) fun u4 e'' hck'' k4 => ?_
      have ee := ck_unique hck hck''
      subst ee
      have k04 := k03.trans k4
      simp only [stp, Nat.reduceAdd, Int.reduceLT, Int.reduceLE, Int.reduceEq, Int.reduceNe, ne_eq, bne_self_eq_false, beq_self_eq_true, stm, hne, ne_eq, not_true_eq_false, decide_false, bne_self_eq_false]
      refine BkLocks.stays_c (((lx.keep0 k2).keep0 k3).keep0 k4) ((hl.keep0 ku).keep0 k04) (by omega) fun u5 k5 => ?_
      try simp only [stp, Nat.reduceAdd, Int.reduceLT, Int.reduceLE, Int.reduceEq, Int.reduceNe, ne_eq, bne_self_eq_false, beq_self_eq_true, stm]
      exact alive_c fun w' k => hq w' (((ku.trans k04).trans k5).trans k).none
    · have k02 := k1.trans k2
      obtain ⟨e0, e1, e2, e3, e4⟩ := ld k02
      simp only [stp, Nat.reduceAdd, Int.reduceLT, Int.reduceLE, Int.reduceEq, Int.reduceNe, ne_eq, bne_self_eq_false, beq_self_eq_true, stm, e0, e1, e2, e3, e4, Option.isSome_some, Option.getD_some]
      refine rcheck_c (s := sh) ((hl.keep0 ku).keep0 k02) (by omega) fun u3 e' hck' k3 => ?_
      have ee := ck_unique hck hck'
      subst ee
      have k03 := k02.trans k3
      obtain ⟨e0, e1, e2, e3, e4⟩ := ld k03
      simp only [stp, Nat.reduceAdd, Int.reduceLT, Int.reduceLE, Int.reduceEq, Int.reduceNe, ne_eq, bne_self_eq_false, beq_self_eq_true, stm, e0, e1, e2, e3, e4, ne_eq, not_true_eq_false, decide_false, bne_self_eq_false, Option.isSome_some, Option.getD_some]
      refine tcheck_c (s := sh) ((lx.keep0 k2).keep0 k3).rd (by omega) fun u4 e'' hck'' k4 => ?_
      have ee := ck_unique hck hck''
      subst ee
      have k04 := k03.trans k4
      simp only [stp, Nat.reduceAdd, Int.reduceLT, Int.reduceLE, Int.reduceEq, Int.reduceNe, ne_eq, bne_self_eq_false, beq_self_eq_true, stm, ne_eq, not_true_eq_false, decide_false, bne_self_eq_false]
      refine BkLocks.stays_c (((lx.keep0 k2).keep0 k3).keep0 k4) ((hl.keep0 ku).keep0 k04) (by omega) fun u5 k5 => ?_
      have k05 := k04.trans k5
      try simp only [stp, Nat.reduceAdd, Int.reduceLT, Int.reduceLE, Int.reduceEq, Int.reduceNe, ne_eq, bne_self_eq_false, beq_self_eq_true, stm]
      refine rnorm_c ((hl.keep0 ku).keep0 k05) (by omega) fun u6 vl lN oN hcN hvN hlN k6 => ?_
      have k06 := k05.trans k6
      have tx6 := tx2.keep0 ((k3.trans k4).trans (k5.trans k6))
      have eN : lN = ln := canon_unique _ _ hcN tx6.canon fun y => by rw [hvN, ← hvl]
      subst eN
      try simp only [stp, Nat.reduceAdd, Int.reduceLT, Int.reduceLE, Int.reduceEq, Int.reduceNe, ne_eq, bne_self_eq_false, beq_self_eq_true, stm]
      rw [show u6.alloc (.cells #[Value.slice none 0 0, Value.slice none 0 0, Value.slice none 0 0, Value.slice none 0 0, Value.slice none 0 0, Value.slice none 0 0, Value.slice none 0 0, Value.slice none 0 0, Value.slice none 0 0, Value.slice none 0 0, Value.slice none 0 0, Value.slice none 0 0, Value.slice none 0 0, Value.slice none 0 0, Value.slice none 0 0, Value.slice none 0 0, Value.slice none 0 0, Value.slice none 0 0, Value.slice none 0 0, Value.slice none 0 0, Value.slice none 0 0, Value.slice none 0 0, Value.slice none 0 0, Value.slice none 0 0, Value.slice none 0 0, Value.slice none 0 0, Value.slice none 0 0, Value.slice none 0 0, Value.slice none 0 0, Value.slice none 0 0] Bk.tBk) = u6.alloc (.cells ((List.range 30).map fun _ => Value.slice none 0 0).toArray Bk.tBk) from rfl]
      have kb := (K0.refl u6).alloc (.cells ((List.range 30).map fun _ => Value.slice none 0 0).toArray Bk.tBk)
      have bb : BkC Bk.tBk (u6.alloc (.cells ((List.range 30).map fun _ => Value.slice none 0 0).toArray Bk.tBk)) (siz u6) (fun _ => .slice none 0 0) := blk_alloc_new
      generalize u6.alloc (.cells ((List.range 30).map fun _ => Value.slice none 0 0).toArray Bk.tBk) = u7 at kb bb
      have k07 := k06.trans kb
      have kw := ku.trans k07
      have swu := ku.size
      have su1 := k1.size
      have su6 := k06.size
      have tp : TP w (siz w) u7 (siz u6) t ⟨sh, lN, [], []⟩ vl (.slice none 0 0) (.slice none 0 0) [] [] (fun _ => .slice none 0 0) [] [] [] [] :=
        { tx := (tx6.keep0 kb).le (by omega)
          lk := RM.keep0 (oN.le (by have := k05.size; omega)) kb
          ow := Own.nil _ _ _ _
          orr := Own.nil _ _ _ _
          bk := bb
          Bb := by omega
          kL := KS.nil _ _ _ _ _ _ _
          kI := KS.nil _ _ _ _ _ _ _
          nf := fun _ _ _ => rfl
          kp := kw.none
          Bw := kw.size }
      obtain ⟨hok, hl0, hl16, _, _⟩ := ck_ok hck
      have tpl : TPl ⟨sh, lN, [], []⟩ [] [] 0 :=
        { sw := Srt.nil
          sr := Srt.nil
          lw := Nat.le_refl _
          lr := Nat.le_refl _
          rng := fun y v hy => by
            have hy : valB lN y = some v := hy
            rw [hvN] at hy
            obtain ⟨a1, a2, a3, a4⟩ := ck_in hck hy
            exact ⟨⟨a1, by omega⟩, a4⟩
          ch := ⟨ends l, by
            have : valB lN = askF l := funext hvN
            show Chg (valB lN) (ends l)
            rw [this]; exact askF_chg l, by rw [ends_len]; omega⟩
          wf1 := fun q hq => by simp at hq
          wf2 := fun q hq => by simp at hq }
      obtain ⟨f0, f1, f2, f3, f4⟩ := ld (k07.drew)
      refine ⟨fun u' => K0 u7.drew u', K0.refl _, ?_⟩
      try simp only [stp, Nat.reduceAdd, Int.reduceLT, Int.reduceLE, Int.reduceEq, Int.reduceNe, ne_eq, bne_self_eq_false, beq_self_eq_true, stm]
      refine hld_of (.int .i64 sh.log) (fun u' hu => rl_3 (hu.cel f2 id)) ?_
      refine rmost_c (by have := hok.l.1; omega) (by have := hok.l.2; omega) ⟨K0.refl _, ?_⟩
      try simp only [stp, Nat.reduceAdd, Int.reduceLT, Int.reduceLE, Int.reduceEq, Int.reduceNe, ne_eq, bne_self_eq_false, beq_self_eq_true, stm]
      refine hld_of (.int .i64 sh.cache) (fun u' hu => rl_3 (hu.cel f3 id)) ?_
      try simp only [stp, Nat.reduceAdd, Int.reduceLT, Int.reduceLE, Int.reduceEq, Int.reduceNe, ne_eq, bne_self_eq_false, beq_self_eq_true, stm]
      refine plays_loop (s := ⟨sh, lN, [], []⟩) (tp.k0 ((K0.refl u7).drew)) tpl (fun {u'} k => ho.keepB k fun g _ hg => hg) hg (by omega) fun w' k => hq w' k
end
end Go.Proofs.YtndjohbbaplekaaGreatX
