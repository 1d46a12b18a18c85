/- The readings of the functions' code, printed by a program, each held equal to the one that is computed: for all arguments, all worlds.
   Conditions: none. -/
import Derived.Test.YtndjohbbaplekaaGreatHShC
import Derived.Test.YtndjohbbaplekaaGreatProg
import Derived.KernelRfl
set_option linter.unusedSimpArgs false
set_option linter.unusedVariables false
namespace Go.Proofs.YtndjohbbaplekaaGreatH
open Go.Sh
set_option maxRecDepth 100000
theorem mix : Tryz.prog.follows .mixedOrders = true := by kernel_rfl


-- commons/commonslaw4.HeapPlays
def S3 (v_zero v_l : Value) (Q : Value → World → Prop) (w : World) : Prop :=
 pur Tryz.prog (Builtin.len_ #[22] 3 #[v_l]) fun t25 => 
 pur Tryz.prog (binS .gtr 3 false true t25 (.int .i64 150)) fun t26 => 
 condS t26
  (callS Tryz.prog 8 #[] (fun t27 w_1 => 
  Q t27 w_1) w)
  (callS Tryz.prog 9 #[] (fun t28 w_2 => 
 pur Tryz.prog (Instr.build 29 #[]) fun t29 => 
 act Tryz.prog (Instr.box 29 t29) (fun t30 w_3 => 
 jn 1 (fun J => 
  condS v_zero
   (pur Tryz.prog (Instr.build 33 #[]) fun t32 => 
   act Tryz.prog (Instr.box 33 t32) (fun t33 w_4 => 
   J t33 w_4) w_3)
   (J t28 w_3))
 (fun v_h w_5 => ∀ _j : Fr, 
  rd Tryz.prog (binS .eql 24 false true v_h (.pointer none)) (fun t35 => 
  condS t35
   (Q (.bool false) w_5)
   (pur Tryz.prog (Instr.build 51 #[]) fun t36 => 
  act Tryz.prog (Instr.box 51 t36) (fun t37 w_6 => 
  lp 1 (fun J_1 => fun v_i w_7 => ∀ _j : Fr, 
   pur Tryz.prog (Builtin.len_ #[22] 3 #[v_l]) fun t40 => 
   pur Tryz.prog (binS .lss 3 false false v_i t40) fun t41 => 
   condS t41
    (pur Tryz.prog (Instr.indexAt 22 v_l v_i) fun t46 => 
   rd Tryz.prog (Instr.loadAt 53 t46) (fun t47 => 
   act Tryz.prog (Instr.alloc 53 true (.tuple #[])) (fun t9 w_8 => 
   act Tryz.prog (thenU (Instr.storeAt 53 t9 t47)) (fun _ w_9 => 
   jn 1 (fun J_2 => 
    pur Tryz.prog (Instr.fieldAt 53 t9 0) fun t48 => 
    rd Tryz.prog (Instr.loadAt 3 t48) (fun t49 => 
    pur Tryz.prog (binS .eql 3 false true t49 (.int .i64 1)) fun t67 => 
    condS t67
     (∃ S : World → Prop, S (World.drew w_9) ∧ 
     pur Tryz.prog (Instr.fieldAt 53 t9 1) fun t69 => 
     hld Tryz.prog S (Instr.loadAt 3 t69) fun t70 => 
     pur Tryz.prog (Instr.fieldAt 53 t9 2) fun t71 => 
     hld Tryz.prog S (Instr.loadAt 3 t71) fun t72 => 
     callS Tryz.prog 10 #[v_h, t70, t72] (fun t73 w_10 => S w_10 ∧ 
     pur Tryz.prog (Instr.fieldAt 53 t9 1) fun t75 => 
     hld Tryz.prog S (Instr.loadAt 3 t75) fun t76 => 
     pur Tryz.prog (Instr.fieldAt 53 t9 2) fun t77 => 
     hld Tryz.prog S (Instr.loadAt 3 t77) fun t78 => 
     callS Tryz.prog 11 #[t30, t76, t78] (fun t79 w_11 => S w_11 ∧ 
     pur Tryz.prog (binS .eql 3 false false t73 t79) fun t80 => 
     J_2 t80 w_11) w_10) (World.drew w_9))
     (pur Tryz.prog (binS .eql 3 false true t49 (.int .i64 2)) fun t82 => 
     condS t82
      (pur Tryz.prog (Instr.fieldAt 53 t9 1) fun t85 => 
      rd Tryz.prog (Instr.loadAt 3 t85) (fun t86 => 
      callS Tryz.prog 12 #[v_h, t86] (fun t87 w_12 => 
      pur Tryz.prog (Instr.extract t87 0) fun t88 => 
      pur Tryz.prog (Instr.extract t87 1) fun t89 => 
      pur Tryz.prog (nilV t30) fun t91 => 
      pur Tryz.prog (Instr.fieldAt 29 t91 0) fun t92 => 
      rd Tryz.prog (Instr.loadAt 27 t92) (fun t93 => 
      pur Tryz.prog (Builtin.len_ #[27] 3 #[t93]) fun t94 => 
      pur Tryz.prog (binS .gtr 3 false true t94 (.int .i64 0)) fun t95 => 
      gd t95 true (fun k w_13 => k t30 w_13) (fun t97_1 w_14 => 
      gd t95 true (fun k_1 w_15 => pur Tryz.prog (nilV t97_1) fun t98 => k_1 t98 w_15) (fun t98_1 w_16 => 
      gd t95 true (fun k_2 w_17 => pur Tryz.prog (Instr.fieldAt 29 t98_1 0) fun t99 => k_2 t99 w_17) (fun t99_1 w_18 => 
      gd t95 true (fun k_3 w_19 => rd Tryz.prog (Instr.loadAt 27 t99_1) (fun t100 => k_3 t100 w_19) w_19) (fun t100_1 w_20 => 
      gd t95 true (fun k_4 w_21 => pur Tryz.prog (Instr.indexAt 27 t100_1 (.int .i64 0)) fun t101 => k_4 t101 w_21) (fun t101_1 w_22 => 
      gd t95 true (fun k_5 w_23 => pur Tryz.prog (Instr.fieldAt 58 t101_1 0) fun t102 => k_5 t102 w_23) (fun t102_1 w_24 => 
      gd t95 true (fun k_6 w_25 => rd Tryz.prog (Instr.loadAt 3 t102_1) (fun t103 => k_6 t103 w_25) w_25) (fun t103_1 w_26 => 
      gd t95 true (fun k_7 w_27 => pur Tryz.prog (Instr.fieldAt 53 t9 1) fun t104 => k_7 t104 w_27) (fun t104_1 w_28 => 
      gd t95 true (fun k_8 w_29 => rd Tryz.prog (Instr.loadAt 3 t104_1) (fun t105 => k_8 t105 w_29) w_29) (fun t105_1 w_30 => 
      gd t95 true (fun k_9 w_31 => pur Tryz.prog (binS .leq 3 false false t103_1 t105_1) fun t106 => k_9 t106 w_31) (fun t106_1 w_32 => 
      pur Tryz.prog (pickS t95 t106_1 (.bool false)) fun t107 => 
      pur Tryz.prog (binS .eql 4 false false t89 t107) fun t110 => 
      gd t110 true (fun k_10 w_33 => k_10 t107 w_33) (fun t112_1 w_34 => 
      gd t110 true (fun k_11 w_35 => k_11 t112_1 w_35) (fun t113_1 w_36 => 
      gd t113_1 false (fun k_12 w_37 => k_12 t88 w_37) (fun t114_1 w_38 => 
      gd t113_1 false (fun k_13 w_39 => pur Tryz.prog (binS .eql 3 false true t114_1 (.int .i64 0)) fun t115 => k_13 t115 w_39) (fun t115_1 w_40 => 
      gd t110 true (fun k_14 w_41 => pur Tryz.prog (pickS t113_1 (.bool true) t115_1) fun t116 => k_14 t116 w_41) (fun t116_1 w_42 => 
      pur Tryz.prog (pickS t110 t116_1 (.bool false)) fun t117 => 
      condS t107
       (gd t117 true (fun k_15 w_43 => k_15 t88 w_43) (fun t121_1 w_44 => 
       gd t117 true (fun k_16 w_45 => k_16 t30 w_45) (fun t122_1 w_46 => 
       gd t117 true (fun k_17 w_47 => pur Tryz.prog (nilV t122_1) fun t123 => k_17 t123 w_47) (fun t123_1 w_48 => 
       gd t117 true (fun k_18 w_49 => pur Tryz.prog (Instr.fieldAt 29 t123_1 0) fun t124 => k_18 t124 w_49) (fun t124_1 w_50 => 
       gd t117 true (fun k_19 w_51 => rd Tryz.prog (Instr.loadAt 27 t124_1) (fun t125 => k_19 t125 w_51) w_51) (fun t125_1 w_52 => 
       gd t117 true (fun k_20 w_53 => pur Tryz.prog (Instr.indexAt 27 t125_1 (.int .i64 0)) fun t126 => k_20 t126 w_53) (fun t126_1 w_54 => 
       gd t117 true (fun k_21 w_55 => pur Tryz.prog (Instr.fieldAt 58 t126_1 2) fun t127 => k_21 t127 w_55) (fun t127_1 w_56 => 
       gd t117 true (fun k_22 w_57 => rd Tryz.prog (Instr.loadAt 3 t127_1) (fun t128 => k_22 t128 w_57) w_57) (fun t128_1 w_58 => 
       gd t117 true (fun k_23 w_59 => pur Tryz.prog (binS .eql 3 false false t121_1 t128_1) fun t129 => k_23 t129 w_59) (fun t129_1 w_60 => 
       pur Tryz.prog (pickS t117 t129_1 (.bool false)) fun t130 => 
       callS Tryz.prog 13 #[t30, (.int .i64 0)] (fun _ w_61 => 
       J_2 t130 w_61) w_60) w_58) w_56) w_54) w_52) w_50) w_48) w_46) w_44) w_42)
       (J_2 t117 w_42)) w_40) w_38) w_36) w_34) w_32) w_30) w_28) w_26) w_24) w_22) w_20) w_18) w_16) w_14) (World.drew w_12)) (World.drew w_12)) w_9) w_9)
      (pur Tryz.prog (Instr.fieldAt 53 t9 1) fun t51 => 
      rd Tryz.prog (Instr.loadAt 3 t51) (fun t52 => 
      callS Tryz.prog 14 #[t30, t52] (fun t53 w_62 => 
      pur Tryz.prog (Instr.fieldAt 53 t9 1) fun t55 => 
      rd Tryz.prog (Instr.loadAt 3 t55) (fun t56 => 
      callS Tryz.prog 15 #[v_h, t56] (fun t57 w_63 => 
      pur Tryz.prog (binS .geq 3 false true t53 (.int .i64 0)) fun t59 => 
      pur Tryz.prog (binS .eql 4 false false t57 t59) fun t60 => 
      pur Tryz.prog (binS .geq 3 false true t53 (.int .i64 0)) fun t62 => 
      condS t62
       (callS Tryz.prog 13 #[t30, t53] (fun _ w_64 => 
       J_2 t60 w_64) w_63)
       (J_2 t60 w_63)) w_62) w_62) w_9) w_9))) w_9)
   (fun v_good w_65 => ∀ _j : Fr, 
    pur Tryz.prog (Instr.fieldAt 53 t9 2) fun t135 => 
    rd Tryz.prog (Instr.loadAt 3 t135) (fun t136 => 
    callS Tryz.prog 16 #[v_h, t136] (fun t137 w_66 => 
    pur Tryz.prog (Instr.extract t137 0) fun t138 => 
    pur Tryz.prog (Instr.extract t137 1) fun t139 => 
    pur Tryz.prog (Instr.fieldAt 53 t9 2) fun t141 => 
    rd Tryz.prog (Instr.loadAt 3 t141) (fun t142 => 
    callS Tryz.prog 14 #[t30, t142] (fun t143 w_67 => 
    pur Tryz.prog (Op.unary .not v_good) fun t145 => 
    gd t145 false (fun k_24 w_68 => k_24 t139 w_68) (fun t147_1 w_69 => 
    gd t145 false (fun k_25 w_70 => k_25 t143 w_70) (fun t148_1 w_71 => 
    gd t145 false (fun k_26 w_72 => pur Tryz.prog (binS .geq 3 false true t148_1 (.int .i64 0)) fun t149 => k_26 t149 w_72) (fun t149_1 w_73 => 
    gd t145 false (fun k_27 w_74 => pur Tryz.prog (binS .neq 4 false false t147_1 t149_1) fun t150 => k_27 t150 w_74) (fun t150_1 w_75 => 
    pur Tryz.prog (pickS t145 (.bool true) t150_1) fun t151 => 
    gd t151 false (fun k_28 w_76 => k_28 t139 w_76) (fun t153_1 w_77 => 
    gd t151 false (fun k_29 w_78 => k_29 t153_1 w_78) (fun t154_1 w_79 => 
    gd t154_1 true (fun k_30 w_80 => k_30 t138 w_80) (fun t155_1 w_81 => 
    gd t154_1 true (fun k_31 w_82 => k_31 t30 w_82) (fun t156_1 w_83 => 
    gd t154_1 true (fun k_32 w_84 => pur Tryz.prog (nilV t156_1) fun t157 => k_32 t157 w_84) (fun t157_1 w_85 => 
    gd t154_1 true (fun k_33 w_86 => pur Tryz.prog (Instr.fieldAt 29 t157_1 0) fun t158 => k_33 t158 w_86) (fun t158_1 w_87 => 
    gd t154_1 true (fun k_34 w_88 => rd Tryz.prog (Instr.loadAt 27 t158_1) (fun t159 => k_34 t159 w_88) w_88) (fun t159_1 w_89 => 
    gd t154_1 true (fun k_35 w_90 => k_35 t143 w_90) (fun t160_1 w_91 => 
    gd t154_1 true (fun k_36 w_92 => pur Tryz.prog (Instr.indexAt 27 t159_1 t160_1) fun t161 => k_36 t161 w_92) (fun t161_1 w_93 => 
    gd t154_1 true (fun k_37 w_94 => pur Tryz.prog (Instr.fieldAt 58 t161_1 0) fun t162 => k_37 t162 w_94) (fun t162_1 w_95 => 
    gd t154_1 true (fun k_38 w_96 => rd Tryz.prog (Instr.loadAt 3 t162_1) (fun t163 => k_38 t163 w_96) w_96) (fun t163_1 w_97 => 
    gd t154_1 true (fun k_39 w_98 => pur Tryz.prog (binS .neq 3 false false t155_1 t163_1) fun t164 => k_39 t164 w_98) (fun t164_1 w_99 => 
    gd t151 false (fun k_40 w_100 => pur Tryz.prog (pickS t154_1 t164_1 (.bool false)) fun t165 => k_40 t165 w_100) (fun t165_1 w_101 => 
    pur Tryz.prog (pickS t151 (.bool true) t165_1) fun t166 => 
    gd t166 false (fun k_41 w_102 => k_41 t139 w_102) (fun t168_1 w_103 => 
    gd t166 false (fun k_42 w_104 => pur Tryz.prog (Op.unary .not t168_1) fun t169 => k_42 t169 w_104) (fun t169_1 w_105 => 
    gd t166 false (fun k_43 w_106 => k_43 t169_1 w_106) (fun t170_1 w_107 => 
    gd t170_1 true (fun k_44 w_108 => k_44 t138 w_108) (fun t171_1 w_109 => 
    gd t170_1 true (fun k_45 w_110 => pur Tryz.prog (binS .neq 3 false true t171_1 (.int .i64 0)) fun t172 => k_45 t172 w_110) (fun t172_1 w_111 => 
    gd t166 false (fun k_46 w_112 => pur Tryz.prog (pickS t170_1 t172_1 (.bool false)) fun t173 => k_46 t173 w_112) (fun t173_1 w_113 => 
    pur Tryz.prog (pickS t166 (.bool true) t173_1) fun t174 => 
    condS t174
     (Q (.bool false) w_113)
     (callS Tryz.prog 17 #[v_h] (fun t177 w_114 => 
    pur Tryz.prog (Instr.extract t177 0) fun t178 => 
    pur Tryz.prog (Instr.extract t177 1) fun t179 => 
    pur Tryz.prog (Instr.extract t177 2) fun t180 => 
    pur Tryz.prog (nilV t30) fun t183 => 
    pur Tryz.prog (Instr.fieldAt 29 t183 0) fun t184 => 
    rd Tryz.prog (Instr.loadAt 27 t184) (fun t185 => 
    pur Tryz.prog (Builtin.len_ #[27] 3 #[t185]) fun t186 => 
    pur Tryz.prog (binS .gtr 3 false true t186 (.int .i64 0)) fun t187 => 
    pur Tryz.prog (binS .neq 4 false false t180 t187) fun t188 => 
    gd t188 false (fun k_47 w_115 => k_47 t180 w_115) (fun t190_1 w_116 => 
    gd t188 false (fun k_48 w_117 => k_48 t190_1 w_117) (fun t191_1 w_118 => 
    gd t191_1 true (fun k_49 w_119 => k_49 t178 w_119) (fun t192_1 w_120 => 
    gd t191_1 true (fun k_50 w_121 => k_50 t30 w_121) (fun t193_1 w_122 => 
    gd t191_1 true (fun k_51 w_123 => pur Tryz.prog (nilV t193_1) fun t194 => k_51 t194 w_123) (fun t194_1 w_124 => 
    gd t191_1 true (fun k_52 w_125 => pur Tryz.prog (Instr.fieldAt 29 t194_1 0) fun t195 => k_52 t195 w_125) (fun t195_1 w_126 => 
    gd t191_1 true (fun k_53 w_127 => rd Tryz.prog (Instr.loadAt 27 t195_1) (fun t196 => k_53 t196 w_127) w_127) (fun t196_1 w_128 => 
    gd t191_1 true (fun k_54 w_129 => pur Tryz.prog (Instr.indexAt 27 t196_1 (.int .i64 0)) fun t197 => k_54 t197 w_129) (fun t197_1 w_130 => 
    gd t191_1 true (fun k_55 w_131 => pur Tryz.prog (Instr.fieldAt 58 t197_1 0) fun t198 => k_55 t198 w_131) (fun t198_1 w_132 => 
    gd t191_1 true (fun k_56 w_133 => rd Tryz.prog (Instr.loadAt 3 t198_1) (fun t199 => k_56 t199 w_133) w_133) (fun t199_1 w_134 => 
    gd t191_1 true (fun k_57 w_135 => pur Tryz.prog (binS .neq 3 false false t192_1 t199_1) fun t200 => k_57 t200 w_135) (fun t200_1 w_136 => 
    gd t191_1 true (fun k_58 w_137 => k_58 t200_1 w_137) (fun t201_1 w_138 => 
    gd t201_1 false (fun k_59 w_139 => k_59 t179 w_139) (fun t202_1 w_140 => 
    gd t201_1 false (fun k_60 w_141 => k_60 t30 w_141) (fun t203_1 w_142 => 
    gd t201_1 false (fun k_61 w_143 => pur Tryz.prog (nilV t203_1) fun t204 => k_61 t204 w_143) (fun t204_1 w_144 => 
    gd t201_1 false (fun k_62 w_145 => pur Tryz.prog (Instr.fieldAt 29 t204_1 0) fun t205 => k_62 t205 w_145) (fun t205_1 w_146 => 
    gd t201_1 false (fun k_63 w_147 => rd Tryz.prog (Instr.loadAt 27 t205_1) (fun t206 => k_63 t206 w_147) w_147) (fun t206_1 w_148 => 
    gd t201_1 false (fun k_64 w_149 => pur Tryz.prog (Instr.indexAt 27 t206_1 (.int .i64 0)) fun t207 => k_64 t207 w_149) (fun t207_1 w_150 => 
    gd t201_1 false (fun k_65 w_151 => pur Tryz.prog (Instr.fieldAt 58 t207_1 2) fun t208 => k_65 t208 w_151) (fun t208_1 w_152 => 
    gd t201_1 false (fun k_66 w_153 => rd Tryz.prog (Instr.loadAt 3 t208_1) (fun t209 => k_66 t209 w_153) w_153) (fun t209_1 w_154 => 
    gd t201_1 false (fun k_67 w_155 => pur Tryz.prog (binS .neq 3 false false t202_1 t209_1) fun t210 => k_67 t210 w_155) (fun t210_1 w_156 => 
    gd t191_1 true (fun k_68 w_157 => pur Tryz.prog (pickS t201_1 (.bool true) t210_1) fun t211 => k_68 t211 w_157) (fun t211_1 w_158 => 
    gd t188 false (fun k_69 w_159 => pur Tryz.prog (pickS t191_1 t211_1 (.bool false)) fun t212 => k_69 t212 w_159) (fun t212_1 w_160 => 
    pur Tryz.prog (pickS t188 (.bool true) t212_1) fun t213 => 
    condS t213
     (Q (.bool false) w_160)
     (lp 2 (fun J_3 => fun v_x v_j w_161 => ∀ _j : Fr, 
     pur Tryz.prog (nilV t30) fun t216 => 
     pur Tryz.prog (Instr.fieldAt 29 t216 0) fun t217 => 
     rd Tryz.prog (Instr.loadAt 27 t217) (fun t218 => 
     pur Tryz.prog (Builtin.len_ #[27] 3 #[t218]) fun t219 => 
     pur Tryz.prog (binS .lss 3 false false v_j t219) fun t220 => 
     condS t220
      (pur Tryz.prog (nilV t30) fun t225 => 
     pur Tryz.prog (Instr.fieldAt 29 t225 0) fun t226 => 
     rd Tryz.prog (Instr.loadAt 27 t226) (fun t227 => 
     pur Tryz.prog (Instr.indexAt 27 t227 v_j) fun t229 => 
     pur Tryz.prog (Instr.fieldAt 58 t229 2) fun t230 => 
     rd Tryz.prog (Instr.loadAt 3 t230) (fun t231 => 
     act Tryz.prog (Instr.buildSlice 64 1 #[(0, t231)]) (fun t232 w_162 => 
     act Tryz.prog (Builtin.append_ #[64, 64] 64 #[v_x, t232]) (fun t233 w_163 => 
     pur Tryz.prog (binS .add 3 false true v_j (.int .i64 1)) fun t222 => 
     J_3 t233 t222 w_163) w_162) w_161) w_161) w_161)
      (callS Tryz.prog 18 #[v_h] (fun t235 w_164 => 
    callS Tryz.prog 19 #[t37, t235] (fun _ w_165 => 
    callS Tryz.prog 20 #[t235, v_x] (fun t241 w_166 => 
    pur Tryz.prog (Op.unary .not t241) fun t242 => 
    gd t242 false (fun k_70 w_167 => k_70 v_h w_167) (fun t244_1 w_168 => 
    gd t242 false (fun k_71 w_169 => callS Tryz.prog 21 #[t244_1] (fun t245 w_170 => k_71 t245 w_170) w_169) (fun t245_1 w_171 => 
    gd t242 false (fun k_72 w_172 => k_72 v_x w_172) (fun t246_1 w_173 => 
    gd t242 false (fun k_73 w_174 => pur Tryz.prog (Builtin.len_ #[64] 3 #[t246_1]) fun t247 => k_73 t247 w_174) (fun t247_1 w_175 => 
    gd t242 false (fun k_74 w_176 => pur Tryz.prog (binS .neq 3 false false t245_1 t247_1) fun t248 => k_74 t248 w_176) (fun t248_1 w_177 => 
    pur Tryz.prog (pickS t242 (.bool true) t248_1) fun t249 => 
    condS t249
     (Q (.bool false) w_177)
     (pur Tryz.prog (binS .add 3 false true v_i (.int .i64 1)) fun t43 => 
   J_1 t43 w_177)) w_175) w_173) w_171) w_168) w_166) w_165) w_164) w_161)) w_161) [(.slice none 0 0), (.int .i64 0)] w_160)) w_158) w_156) w_154) w_152) w_150) w_148) w_146) w_144) w_142) w_140) w_138) w_136) w_134) w_132) w_130) w_128) w_126) w_124) w_122) w_120) w_118) w_116) w_114) w_114) w_113)) w_111) w_109) w_107) w_105) w_103) w_101) w_99) w_97) w_95) w_93) w_91) w_89) w_87) w_85) w_83) w_81) w_79) w_77) w_75) w_73) w_71) w_69) w_67) w_66) w_66) w_65) w_65)) w_8) w_7) w_7)
    (callS Tryz.prog 8 #[] (fun t250 w_178 => 
  gd t250 true (fun k_75 w_179 => k_75 t37 w_179) (fun t252_1 w_180 => 
  gd t250 true (fun k_76 w_181 => callS Tryz.prog 22 #[t252_1] (fun t253 w_182 => k_76 t253 w_182) w_181) (fun t253_1 w_183 => 
  pur Tryz.prog (pickS t250 t253_1 (.bool false)) fun t254 => 
  Q t254 w_183) w_180) w_178) w_7)) [(.int .i64 0)] w_6) w_5)) w_5)) w_2) w)
theorem eq3 (v_zero v_l : Value) (Q : Value → World → Prop) (w : World) : semF Tryz.prog 3 [v_zero, v_l] Q w = S3 v_zero v_l Q w := by kernel_rfl
theorem ref3 {v_zero v_l : Value} {Q : Value → World → Prop} {w : World} (h : S3 v_zero v_l Q w) : callS Tryz.prog 3 #[v_zero, v_l] Q w :=
  callS_of mix (fun a w => Tryz.call3 a w) (by kernel_rfl) (by rw [eq3]; exact h)
-- commons/commonslaw4.alive
def S8 (Q : Value → World → Prop) (w : World) : Prop :=
 callS Tryz.prog 9 #[] (fun t6 w_1 => 
 rd Tryz.prog (binS .eql 24 false true t6 (.pointer none)) (fun t8 => 
 gd t8 false (fun k w_2 => k t6 w_2) (fun t10_1 w_3 => 
 gd t8 false (fun k_1 w_4 => callS Tryz.prog 10 #[t10_1, (.int .i64 5), (.int .i64 50)] (fun t11 w_5 => k_1 t11 w_5) w_4) (fun t11_1 w_6 => 
 gd t8 false (fun k_2 w_7 => pur Tryz.prog (binS .neq 3 false true t11_1 (.int .i64 1)) fun t12 => k_2 t12 w_7) (fun t12_1 w_8 => 
 pur Tryz.prog (pickS t8 (.bool true) t12_1) fun t13 => 
 gd t13 false (fun k_3 w_9 => k_3 t6 w_9) (fun t15_1 w_10 => 
 gd t13 false (fun k_4 w_11 => callS Tryz.prog 10 #[t15_1, (.int .i64 3), (.int .i64 30)] (fun t16 w_12 => k_4 t16 w_12) w_11) (fun t16_1 w_13 => 
 gd t13 false (fun k_5 w_14 => pur Tryz.prog (binS .neq 3 false true t16_1 (.int .i64 2)) fun t17 => k_5 t17 w_14) (fun t17_1 w_15 => 
 pur Tryz.prog (pickS t13 (.bool true) t17_1) fun t18 => 
 condS t18
  (Q (.bool false) w_15)
  (callS Tryz.prog 12 #[t6, (.int .i64 4)] (fun t21 w_16 => 
 pur Tryz.prog (Instr.extract t21 0) fun t22 => 
 pur Tryz.prog (Instr.extract t21 1) fun t23 => 
 callS Tryz.prog 12 #[t6, (.int .i64 4)] (fun t26 w_17 => 
 pur Tryz.prog (Instr.extract t26 0) fun _ => 
 pur Tryz.prog (Instr.extract t26 1) fun t28 => 
 gd t23 true (fun k_6 w_18 => k_6 t22 w_18) (fun t31_1 w_19 => 
 gd t23 true (fun k_7 w_20 => pur Tryz.prog (binS .eql 3 false true t31_1 (.int .i64 30)) fun t32 => k_7 t32 w_20) (fun t32_1 w_21 => 
 pur Tryz.prog (pickS t23 t32_1 (.bool false)) fun t33 => 
 gd t33 true (fun k_8 w_22 => k_8 t28 w_22) (fun t35_1 w_23 => 
 gd t33 true (fun k_9 w_24 => pur Tryz.prog (Op.unary .not t35_1) fun t36 => k_9 t36 w_24) (fun t36_1 w_25 => 
 pur Tryz.prog (pickS t33 t36_1 (.bool false)) fun t37 => 
 gd t37 true (fun k_10 w_26 => k_10 t6 w_26) (fun t39_1 w_27 => 
 gd t37 true (fun k_11 w_28 => callS Tryz.prog 21 #[t39_1] (fun t40 w_29 => k_11 t40 w_29) w_28) (fun t40_1 w_30 => 
 gd t37 true (fun k_12 w_31 => pur Tryz.prog (binS .eql 3 false true t40_1 (.int .i64 1)) fun t41 => k_12 t41 w_31) (fun t41_1 w_32 => 
 pur Tryz.prog (pickS t37 t41_1 (.bool false)) fun t42 => 
 Q t42 w_32) w_30) w_27) w_25) w_23) w_21) w_19) w_17) w_16) w_15)) w_13) w_10) w_8) w_6) w_3) w_1) w_1) w
theorem eq8 (Q : Value → World → Prop) (w : World) : semF Tryz.prog 8 [] Q w = S8 Q w := by kernel_rfl
theorem ref8 {Q : Value → World → Prop} {w : World} (h : S8 Q w) : callS Tryz.prog 8 #[] Q w :=
  callS_of mix (fun a w => Tryz.call8 a w) (by kernel_rfl) (by rw [eq8]; exact h)
-- commons/heap.New[int]
def S9 (Q : Value → World → Prop) (w : World) : Prop :=
 pur Tryz.prog (Instr.build 33 #[]) fun t1 => 
 act Tryz.prog (Instr.box 33 t1) (fun t2 w_1 => 
 Q t2 w_1) w
theorem eq9 (Q : Value → World → Prop) (w : World) : semF Tryz.prog 9 [] Q w = S9 Q w := by kernel_rfl
theorem ref9 {Q : Value → World → Prop} {w : World} (h : S9 Q w) : callS Tryz.prog 9 #[] Q w :=
  callS_of mix (fun a w => Tryz.call9 a w) (by kernel_rfl) (by rw [eq9]; exact h)
-- (*commons/heap.Heap[int]).Put
def S10 (v_h v_at v_v : Value) (Q : Value → World → Prop) (w : World) : Prop :=
 rd Tryz.prog (binS .eql 24 false true v_h (.pointer none)) (fun t9 => 
 condS t9
  (Q (.int .i64 0) w)
  (jn 0 (fun J => 
  pur Tryz.prog (nilV v_h) fun t11 => 
  pur Tryz.prog (Instr.fieldAt 33 t11 1) fun t12 => 
  rd Tryz.prog (Instr.loadAt 31 t12) (fun t13 => 
  rd Tryz.prog (binS .eql 31 false true t13 (.map none)) (fun t14 => 
  condS t14
   (act Tryz.prog (Instr.makeMap 31 none) (fun t16 w_1 => 
   pur Tryz.prog (nilV v_h) fun t17 => 
   pur Tryz.prog (Instr.fieldAt 33 t17 1) fun t18 => 
   act Tryz.prog (thenU (Instr.storeAt 31 t18 t16)) (fun _ w_2 => 
   J  w_2) w_1) w)
   (J  w)) w) w)
 (fun  w_3 => ∀ _j : Fr, 
  pur Tryz.prog (nilV v_h) fun t20 => 
  pur Tryz.prog (Instr.fieldAt 33 t20 2) fun t21 => 
  rd Tryz.prog (Instr.loadAt 3 t21) (fun t22 => 
  pur Tryz.prog (binS .add 3 false true t22 (.int .i64 1)) fun t23 => 
  pur Tryz.prog (nilV v_h) fun t24 => 
  pur Tryz.prog (Instr.fieldAt 33 t24 2) fun t25 => 
  act Tryz.prog (thenU (Instr.storeAt 3 t25 t23)) (fun _ w_4 => 
  pur Tryz.prog (nilV v_h) fun t28 => 
  pur Tryz.prog (Instr.fieldAt 33 t28 2) fun t29 => 
  rd Tryz.prog (Instr.loadAt 3 t29) (fun t30 => 
  pur Tryz.prog (nilV v_h) fun t33 => 
  pur Tryz.prog (Instr.fieldAt 33 t33 0) fun t34 => 
  rd Tryz.prog (Instr.loadAt 30 t34) (fun t35 => 
  pur Tryz.prog (Builtin.len_ #[30] 3 #[t35]) fun t36 => 
  pur Tryz.prog (Instr.build 157 #[(0, v_at), (1, t30), (2, v_v), (3, t36)]) fun t37 => 
  act Tryz.prog (Instr.box 157 t37) (fun t38 w_5 => 
  pur Tryz.prog (nilV v_h) fun t41 => 
  pur Tryz.prog (Instr.fieldAt 33 t41 0) fun t42 => 
  rd Tryz.prog (Instr.loadAt 30 t42) (fun t43 => 
  act Tryz.prog (Instr.buildSlice 30 1 #[(0, t38)]) (fun t45 w_6 => 
  act Tryz.prog (Builtin.append_ #[30, 30] 30 #[t43, t45]) (fun t46 w_7 => 
  pur Tryz.prog (nilV v_h) fun t47 => 
  pur Tryz.prog (Instr.fieldAt 33 t47 0) fun t48 => 
  act Tryz.prog (thenU (Instr.storeAt 30 t48 t46)) (fun _ w_8 => 
  pur Tryz.prog (nilV v_h) fun t50 => 
  pur Tryz.prog (Instr.fieldAt 33 t50 1) fun t51 => 
  rd Tryz.prog (Instr.loadAt 31 t51) (fun t52 => 
  pur Tryz.prog (nilV t38) fun t54 => 
  pur Tryz.prog (Instr.fieldAt 157 t54 1) fun t55 => 
  rd Tryz.prog (Instr.loadAt 3 t55) (fun t56 => 
  act Tryz.prog (thenU (Instr.mapUpdate 31 t52 t56 t38)) (fun _ w_9 => 
  pur Tryz.prog (nilV t38) fun t60 => 
  pur Tryz.prog (Instr.fieldAt 157 t60 3) fun t61 => 
  rd Tryz.prog (Instr.loadAt 3 t61) (fun t62 => 
  callS Tryz.prog 95 #[v_h, t62] (fun _ w_10 => 
  pur Tryz.prog (nilV t38) fun t65 => 
  pur Tryz.prog (Instr.fieldAt 157 t65 1) fun t66 => 
  rd Tryz.prog (Instr.loadAt 3 t66) (fun t67 => 
  Q t67 w_10) w_10) w_9) w_9) (World.drew w_8)) (World.drew w_8)) (World.drew w_8)) w_7) w_6) w_5) w_5) (World.drew w_4)) (World.drew w_4)) (World.drew w_4)) w_3) w_3))) w
theorem eq10 (v_h v_at v_v : Value) (Q : Value → World → Prop) (w : World) : semF Tryz.prog 10 [v_h, v_at, v_v] Q w = S10 v_h v_at v_v Q w := by kernel_rfl
theorem ref10 {v_h v_at v_v : Value} {Q : Value → World → Prop} {w : World} (h : S10 v_h v_at v_v Q w) : callS Tryz.prog 10 #[v_h, v_at, v_v] Q w :=
  callS_of mix (fun a w => Tryz.call10 a w) (by kernel_rfl) (by rw [eq10]; exact h)
-- (*commons/commonsref1.Heap).Put
def S11 (v_h v_at v_v : Value) (Q : Value → World → Prop) (w : World) : Prop :=
 pur Tryz.prog (nilV v_h) fun t9 => 
 pur Tryz.prog (Instr.fieldAt 29 t9 1) fun t10 => 
 rd Tryz.prog (Instr.loadAt 3 t10) (fun t11 => 
 pur Tryz.prog (binS .add 3 false true t11 (.int .i64 1)) fun t12 => 
 pur Tryz.prog (nilV v_h) fun t13 => 
 pur Tryz.prog (Instr.fieldAt 29 t13 1) fun t14 => 
 act Tryz.prog (thenU (Instr.storeAt 3 t14 t12)) (fun _ w_1 => 
 lp 1 (fun J => fun v_k w_2 => ∀ _j : Fr, 
  pur Tryz.prog (nilV v_h) fun t17 => 
  pur Tryz.prog (Instr.fieldAt 29 t17 0) fun t18 => 
  rd Tryz.prog (Instr.loadAt 27 t18) (fun t19 => 
  pur Tryz.prog (Builtin.len_ #[27] 3 #[t19]) fun t20 => 
  pur Tryz.prog (binS .lss 3 false false v_k t20) fun t21 => 
  gd t21 true (fun k w_3 => k v_h w_3) (fun t23_1 w_4 => 
  gd t21 true (fun k_1 w_5 => pur Tryz.prog (nilV t23_1) fun t24 => k_1 t24 w_5) (fun t24_1 w_6 => 
  gd t21 true (fun k_2 w_7 => pur Tryz.prog (Instr.fieldAt 29 t24_1 0) fun t25 => k_2 t25 w_7) (fun t25_1 w_8 => 
  gd t21 true (fun k_3 w_9 => rd Tryz.prog (Instr.loadAt 27 t25_1) (fun t26 => k_3 t26 w_9) w_9) (fun t26_1 w_10 => 
  gd t21 true (fun k_4 w_11 => k_4 v_k w_11) (fun t27_1 w_12 => 
  gd t21 true (fun k_5 w_13 => pur Tryz.prog (Instr.indexAt 27 t26_1 t27_1) fun t28 => k_5 t28 w_13) (fun t28_1 w_14 => 
  gd t21 true (fun k_6 w_15 => pur Tryz.prog (Instr.fieldAt 58 t28_1 0) fun t29 => k_6 t29 w_15) (fun t29_1 w_16 => 
  gd t21 true (fun k_7 w_17 => rd Tryz.prog (Instr.loadAt 3 t29_1) (fun t30 => k_7 t30 w_17) w_17) (fun t30_1 w_18 => 
  gd t21 true (fun k_8 w_19 => k_8 v_at w_19) (fun t31_1 w_20 => 
  gd t21 true (fun k_9 w_21 => pur Tryz.prog (binS .leq 3 false false t30_1 t31_1) fun t32 => k_9 t32 w_21) (fun t32_1 w_22 => 
  pur Tryz.prog (pickS t21 t32_1 (.bool false)) fun t33 => 
  condS t33
   (pur Tryz.prog (binS .add 3 false true v_k (.int .i64 1)) fun t35 => 
  J t35 w_22)
   (jn 0 (fun J_1 => 
  pur Tryz.prog (nilV v_h) fun t38 => 
  pur Tryz.prog (Instr.fieldAt 29 t38 0) fun t39 => 
  pur Tryz.prog (nilV v_h) fun t46 => 
  pur Tryz.prog (Instr.fieldAt 29 t46 1) fun t47 => 
  pur Tryz.prog (nilV v_h) fun t54 => 
  pur Tryz.prog (Instr.fieldAt 29 t54 0) fun t55 => 
  (rd Tryz.prog (Instr.loadAt 27 t39) (fun t40 => 
  pur Tryz.prog (Instr.sliceAt 27 t40 none (some v_k) none) fun t42 => 
  (act Tryz.prog (Builtin.append_ #[27, 27] 27 #[(.slice none 0 0), t42]) (fun t43 w_23 => 
  rd Tryz.prog (Instr.loadAt 3 t47) (fun t48 => 
  pur Tryz.prog (Instr.build 58 #[(0, v_at), (1, t48), (2, v_v)]) fun t50 => 
  (act Tryz.prog (Instr.buildSlice 27 1 #[(0, t50)]) (fun t51 w_24 => 
  (act Tryz.prog (Builtin.append_ #[27, 27] 27 #[t43, t51]) (fun t52 w_25 => 
  rd Tryz.prog (Instr.loadAt 27 t55) (fun t56 => 
  pur Tryz.prog (Instr.sliceAt 27 t56 (some v_k) none none) fun t58 => 
  act Tryz.prog (Builtin.append_ #[27, 27] 27 #[t52, t58]) (fun t59 w_26 => 
  pur Tryz.prog (nilV v_h) fun t60 => 
  pur Tryz.prog (Instr.fieldAt 29 t60 0) fun t61 => 
  act Tryz.prog (thenU (Instr.storeAt 27 t61 t59)) (fun _ w_27 => 
  J_1  w_27) w_26) w_25) w_25) w_24
  ) ∧ (rd Tryz.prog (Instr.loadAt 27 t55) (fun t56_1 => 
  act Tryz.prog (Builtin.append_ #[27, 27] 27 #[t43, t51]) (fun t52_1 w_28 => 
  pur Tryz.prog (Instr.sliceAt 27 t56_1 (some v_k) none none) fun t58_1 => 
  act Tryz.prog (Builtin.append_ #[27, 27] 27 #[t52_1, t58_1]) (fun t59_1 w_29 => 
  pur Tryz.prog (nilV v_h) fun t60_1 => 
  pur Tryz.prog (Instr.fieldAt 29 t60_1 0) fun t61_1 => 
  act Tryz.prog (thenU (Instr.storeAt 27 t61_1 t59_1)) (fun _ w_30 => 
  J_1  w_30) w_29) w_28) w_24) w_24)) w_23
  ) ∧ (rd Tryz.prog (Instr.loadAt 27 t55) (fun t56_2 => 
  act Tryz.prog (Instr.buildSlice 27 1 #[(0, t50)]) (fun t51_1 w_31 => 
  act Tryz.prog (Builtin.append_ #[27, 27] 27 #[t43, t51_1]) (fun t52_2 w_32 => 
  pur Tryz.prog (Instr.sliceAt 27 t56_2 (some v_k) none none) fun t58_2 => 
  act Tryz.prog (Builtin.append_ #[27, 27] 27 #[t52_2, t58_2]) (fun t59_2 w_33 => 
  pur Tryz.prog (nilV v_h) fun t60_2 => 
  pur Tryz.prog (Instr.fieldAt 29 t60_2 0) fun t61_2 => 
  act Tryz.prog (thenU (Instr.storeAt 27 t61_2 t59_2)) (fun _ w_34 => 
  J_1  w_34) w_33) w_32) w_31) w_23) w_23)) w_23) (World.drew w_22)
  ) ∧ (rd Tryz.prog (Instr.loadAt 3 t47) (fun t48_1 => 
  pur Tryz.prog (Instr.build 58 #[(0, v_at), (1, t48_1), (2, v_v)]) fun t50_1 => 
  (act Tryz.prog (Builtin.append_ #[27, 27] 27 #[(.slice none 0 0), t42]) (fun t43_1 w_35 => 
  (act Tryz.prog (Instr.buildSlice 27 1 #[(0, t50_1)]) (fun t51_2 w_36 => 
  (act Tryz.prog (Builtin.append_ #[27, 27] 27 #[t43_1, t51_2]) (fun t52_3 w_37 => 
  rd Tryz.prog (Instr.loadAt 27 t55) (fun t56_3 => 
  pur Tryz.prog (Instr.sliceAt 27 t56_3 (some v_k) none none) fun t58_3 => 
  act Tryz.prog (Builtin.append_ #[27, 27] 27 #[t52_3, t58_3]) (fun t59_3 w_38 => 
  pur Tryz.prog (nilV v_h) fun t60_3 => 
  pur Tryz.prog (Instr.fieldAt 29 t60_3 0) fun t61_3 => 
  act Tryz.prog (thenU (Instr.storeAt 27 t61_3 t59_3)) (fun _ w_39 => 
  J_1  w_39) w_38) w_37) w_37) w_36
  ) ∧ (rd Tryz.prog (Instr.loadAt 27 t55) (fun t56_4 => 
  act Tryz.prog (Builtin.append_ #[27, 27] 27 #[t43_1, t51_2]) (fun t52_4 w_40 => 
  pur Tryz.prog (Instr.sliceAt 27 t56_4 (some v_k) none none) fun t58_4 => 
  act Tryz.prog (Builtin.append_ #[27, 27] 27 #[t52_4, t58_4]) (fun t59_4 w_41 => 
  pur Tryz.prog (nilV v_h) fun t60_4 => 
  pur Tryz.prog (Instr.fieldAt 29 t60_4 0) fun t61_4 => 
  act Tryz.prog (thenU (Instr.storeAt 27 t61_4 t59_4)) (fun _ w_42 => 
  J_1  w_42) w_41) w_40) w_36) w_36)) w_35
  ) ∧ (rd Tryz.prog (Instr.loadAt 27 t55) (fun t56_5 => 
  act Tryz.prog (Instr.buildSlice 27 1 #[(0, t50_1)]) (fun t51_3 w_43 => 
  act Tryz.prog (Builtin.append_ #[27, 27] 27 #[t43_1, t51_3]) (fun t52_5 w_44 => 
  pur Tryz.prog (Instr.sliceAt 27 t56_5 (some v_k) none none) fun t58_5 => 
  act Tryz.prog (Builtin.append_ #[27, 27] 27 #[t52_5, t58_5]) (fun t59_5 w_45 => 
  pur Tryz.prog (nilV v_h) fun t60_5 => 
  pur Tryz.prog (Instr.fieldAt 29 t60_5 0) fun t61_5 => 
  act Tryz.prog (thenU (Instr.storeAt 27 t61_5 t59_5)) (fun _ w_46 => 
  J_1  w_46) w_45) w_44) w_43) w_35) w_35)) (World.drew w_22)
  ) ∧ (act Tryz.prog (Instr.buildSlice 27 1 #[(0, t50_1)]) (fun t51_4 w_47 => 
  (act Tryz.prog (Builtin.append_ #[27, 27] 27 #[(.slice none 0 0), t42]) (fun t43_2 w_48 => 
  (act Tryz.prog (Builtin.append_ #[27, 27] 27 #[t43_2, t51_4]) (fun t52_6 w_49 => 
  rd Tryz.prog (Instr.loadAt 27 t55) (fun t56_6 => 
  pur Tryz.prog (Instr.sliceAt 27 t56_6 (some v_k) none none) fun t58_6 => 
  act Tryz.prog (Builtin.append_ #[27, 27] 27 #[t52_6, t58_6]) (fun t59_6 w_50 => 
  pur Tryz.prog (nilV v_h) fun t60_6 => 
  pur Tryz.prog (Instr.fieldAt 29 t60_6 0) fun t61_6 => 
  act Tryz.prog (thenU (Instr.storeAt 27 t61_6 t59_6)) (fun _ w_51 => 
  J_1  w_51) w_50) w_49) w_49) w_48
  ) ∧ (rd Tryz.prog (Instr.loadAt 27 t55) (fun t56_7 => 
  act Tryz.prog (Builtin.append_ #[27, 27] 27 #[t43_2, t51_4]) (fun t52_7 w_52 => 
  pur Tryz.prog (Instr.sliceAt 27 t56_7 (some v_k) none none) fun t58_7 => 
  act Tryz.prog (Builtin.append_ #[27, 27] 27 #[t52_7, t58_7]) (fun t59_7 w_53 => 
  pur Tryz.prog (nilV v_h) fun t60_7 => 
  pur Tryz.prog (Instr.fieldAt 29 t60_7 0) fun t61_7 => 
  act Tryz.prog (thenU (Instr.storeAt 27 t61_7 t59_7)) (fun _ w_54 => 
  J_1  w_54) w_53) w_52) w_48) w_48)) w_47
  ) ∧ (rd Tryz.prog (Instr.loadAt 27 t55) (fun t56_8 => 
  act Tryz.prog (Builtin.append_ #[27, 27] 27 #[(.slice none 0 0), t42]) (fun t43_3 w_55 => 
  act Tryz.prog (Builtin.append_ #[27, 27] 27 #[t43_3, t51_4]) (fun t52_8 w_56 => 
  pur Tryz.prog (Instr.sliceAt 27 t56_8 (some v_k) none none) fun t58_8 => 
  act Tryz.prog (Builtin.append_ #[27, 27] 27 #[t52_8, t58_8]) (fun t59_8 w_57 => 
  pur Tryz.prog (nilV v_h) fun t60_8 => 
  pur Tryz.prog (Instr.fieldAt 29 t60_8 0) fun t61_8 => 
  act Tryz.prog (thenU (Instr.storeAt 27 t61_8 t59_8)) (fun _ w_58 => 
  J_1  w_58) w_57) w_56) w_55) w_47) w_47)) (World.drew w_22)
  ) ∧ (rd Tryz.prog (Instr.loadAt 27 t55) (fun t56_9 => 
  pur Tryz.prog (Instr.sliceAt 27 t56_9 (some v_k) none none) fun t58_9 => 
  (act Tryz.prog (Builtin.append_ #[27, 27] 27 #[(.slice none 0 0), t42]) (fun t43_4 w_59 => 
  act Tryz.prog (Instr.buildSlice 27 1 #[(0, t50_1)]) (fun t51_5 w_60 => 
  act Tryz.prog (Builtin.append_ #[27, 27] 27 #[t43_4, t51_5]) (fun t52_9 w_61 => 
  act Tryz.prog (Builtin.append_ #[27, 27] 27 #[t52_9, t58_9]) (fun t59_9 w_62 => 
  pur Tryz.prog (nilV v_h) fun t60_9 => 
  pur Tryz.prog (Instr.fieldAt 29 t60_9 0) fun t61_9 => 
  act Tryz.prog (thenU (Instr.storeAt 27 t61_9 t59_9)) (fun _ w_63 => 
  J_1  w_63) w_62) w_61) w_60) w_59) (World.drew w_22)
  ) ∧ (act Tryz.prog (Instr.buildSlice 27 1 #[(0, t50_1)]) (fun t51_6 w_64 => 
  act Tryz.prog (Builtin.append_ #[27, 27] 27 #[(.slice none 0 0), t42]) (fun t43_5 w_65 => 
  act Tryz.prog (Builtin.append_ #[27, 27] 27 #[t43_5, t51_6]) (fun t52_10 w_66 => 
  act Tryz.prog (Builtin.append_ #[27, 27] 27 #[t52_10, t58_9]) (fun t59_10 w_67 => 
  pur Tryz.prog (nilV v_h) fun t60_10 => 
  pur Tryz.prog (Instr.fieldAt 29 t60_10 0) fun t61_10 => 
  act Tryz.prog (thenU (Instr.storeAt 27 t61_10 t59_10)) (fun _ w_68 => 
  J_1  w_68) w_67) w_66) w_65) w_64) (World.drew w_22))) (World.drew w_22))) (World.drew w_22)
  ) ∧ (rd Tryz.prog (Instr.loadAt 27 t55) (fun t56_10 => 
  pur Tryz.prog (Instr.sliceAt 27 t56_10 (some v_k) none none) fun t58_10 => 
  (act Tryz.prog (Builtin.append_ #[27, 27] 27 #[(.slice none 0 0), t42]) (fun t43_6 w_69 => 
  rd Tryz.prog (Instr.loadAt 3 t47) (fun t48_2 => 
  pur Tryz.prog (Instr.build 58 #[(0, v_at), (1, t48_2), (2, v_v)]) fun t50_2 => 
  act Tryz.prog (Instr.buildSlice 27 1 #[(0, t50_2)]) (fun t51_7 w_70 => 
  act Tryz.prog (Builtin.append_ #[27, 27] 27 #[t43_6, t51_7]) (fun t52_11 w_71 => 
  act Tryz.prog (Builtin.append_ #[27, 27] 27 #[t52_11, t58_10]) (fun t59_11 w_72 => 
  pur Tryz.prog (nilV v_h) fun t60_11 => 
  pur Tryz.prog (Instr.fieldAt 29 t60_11 0) fun t61_11 => 
  act Tryz.prog (thenU (Instr.storeAt 27 t61_11 t59_11)) (fun _ w_73 => 
  J_1  w_73) w_72) w_71) w_70) w_69) w_69) (World.drew w_22)
  ) ∧ (rd Tryz.prog (Instr.loadAt 3 t47) (fun t48_3 => 
  pur Tryz.prog (Instr.build 58 #[(0, v_at), (1, t48_3), (2, v_v)]) fun t50_3 => 
  (act Tryz.prog (Builtin.append_ #[27, 27] 27 #[(.slice none 0 0), t42]) (fun t43_7 w_74 => 
  act Tryz.prog (Instr.buildSlice 27 1 #[(0, t50_3)]) (fun t51_8 w_75 => 
  act Tryz.prog (Builtin.append_ #[27, 27] 27 #[t43_7, t51_8]) (fun t52_12 w_76 => 
  act Tryz.prog (Builtin.append_ #[27, 27] 27 #[t52_12, t58_10]) (fun t59_12 w_77 => 
  pur Tryz.prog (nilV v_h) fun t60_12 => 
  pur Tryz.prog (Instr.fieldAt 29 t60_12 0) fun t61_12 => 
  act Tryz.prog (thenU (Instr.storeAt 27 t61_12 t59_12)) (fun _ w_78 => 
  J_1  w_78) w_77) w_76) w_75) w_74) (World.drew w_22)
  ) ∧ (act Tryz.prog (Instr.buildSlice 27 1 #[(0, t50_3)]) (fun t51_9 w_79 => 
  act Tryz.prog (Builtin.append_ #[27, 27] 27 #[(.slice none 0 0), t42]) (fun t43_8 w_80 => 
  act Tryz.prog (Builtin.append_ #[27, 27] 27 #[t43_8, t51_9]) (fun t52_13 w_81 => 
  act Tryz.prog (Builtin.append_ #[27, 27] 27 #[t52_13, t58_10]) (fun t59_13 w_82 => 
  pur Tryz.prog (nilV v_h) fun t60_13 => 
  pur Tryz.prog (Instr.fieldAt 29 t60_13 0) fun t61_13 => 
  act Tryz.prog (thenU (Instr.storeAt 27 t61_13 t59_13)) (fun _ w_83 => 
  J_1  w_83) w_82) w_81) w_80) w_79) (World.drew w_22))) (World.drew w_22))) (World.drew w_22))) (World.drew w_22)
  ) ∧ (rd Tryz.prog (Instr.loadAt 3 t47) (fun t48_4 => 
  pur Tryz.prog (Instr.build 58 #[(0, v_at), (1, t48_4), (2, v_v)]) fun t50_4 => 
  (rd Tryz.prog (Instr.loadAt 27 t39) (fun t40_1 => 
  pur Tryz.prog (Instr.sliceAt 27 t40_1 none (some v_k) none) fun t42_1 => 
  (act Tryz.prog (Builtin.append_ #[27, 27] 27 #[(.slice none 0 0), t42_1]) (fun t43_9 w_84 => 
  (act Tryz.prog (Instr.buildSlice 27 1 #[(0, t50_4)]) (fun t51_10 w_85 => 
  (act Tryz.prog (Builtin.append_ #[27, 27] 27 #[t43_9, t51_10]) (fun t52_14 w_86 => 
  rd Tryz.prog (Instr.loadAt 27 t55) (fun t56_11 => 
  pur Tryz.prog (Instr.sliceAt 27 t56_11 (some v_k) none none) fun t58_11 => 
  act Tryz.prog (Builtin.append_ #[27, 27] 27 #[t52_14, t58_11]) (fun t59_14 w_87 => 
  pur Tryz.prog (nilV v_h) fun t60_14 => 
  pur Tryz.prog (Instr.fieldAt 29 t60_14 0) fun t61_14 => 
  act Tryz.prog (thenU (Instr.storeAt 27 t61_14 t59_14)) (fun _ w_88 => 
  J_1  w_88) w_87) w_86) w_86) w_85
  ) ∧ (rd Tryz.prog (Instr.loadAt 27 t55) (fun t56_12 => 
  act Tryz.prog (Builtin.append_ #[27, 27] 27 #[t43_9, t51_10]) (fun t52_15 w_89 => 
  pur Tryz.prog (Instr.sliceAt 27 t56_12 (some v_k) none none) fun t58_12 => 
  act Tryz.prog (Builtin.append_ #[27, 27] 27 #[t52_15, t58_12]) (fun t59_15 w_90 => 
  pur Tryz.prog (nilV v_h) fun t60_15 => 
  pur Tryz.prog (Instr.fieldAt 29 t60_15 0) fun t61_15 => 
  act Tryz.prog (thenU (Instr.storeAt 27 t61_15 t59_15)) (fun _ w_91 => 
  J_1  w_91) w_90) w_89) w_85) w_85)) w_84
  ) ∧ (rd Tryz.prog (Instr.loadAt 27 t55) (fun t56_13 => 
  act Tryz.prog (Instr.buildSlice 27 1 #[(0, t50_4)]) (fun t51_11 w_92 => 
  act Tryz.prog (Builtin.append_ #[27, 27] 27 #[t43_9, t51_11]) (fun t52_16 w_93 => 
  pur Tryz.prog (Instr.sliceAt 27 t56_13 (some v_k) none none) fun t58_13 => 
  act Tryz.prog (Builtin.append_ #[27, 27] 27 #[t52_16, t58_13]) (fun t59_16 w_94 => 
  pur Tryz.prog (nilV v_h) fun t60_16 => 
  pur Tryz.prog (Instr.fieldAt 29 t60_16 0) fun t61_16 => 
  act Tryz.prog (thenU (Instr.storeAt 27 t61_16 t59_16)) (fun _ w_95 => 
  J_1  w_95) w_94) w_93) w_92) w_84) w_84)) (World.drew w_22)
  ) ∧ (act Tryz.prog (Instr.buildSlice 27 1 #[(0, t50_4)]) (fun t51_12 w_96 => 
  (act Tryz.prog (Builtin.append_ #[27, 27] 27 #[(.slice none 0 0), t42_1]) (fun t43_10 w_97 => 
  (act Tryz.prog (Builtin.append_ #[27, 27] 27 #[t43_10, t51_12]) (fun t52_17 w_98 => 
  rd Tryz.prog (Instr.loadAt 27 t55) (fun t56_14 => 
  pur Tryz.prog (Instr.sliceAt 27 t56_14 (some v_k) none none) fun t58_14 => 
  act Tryz.prog (Builtin.append_ #[27, 27] 27 #[t52_17, t58_14]) (fun t59_17 w_99 => 
  pur Tryz.prog (nilV v_h) fun t60_17 => 
  pur Tryz.prog (Instr.fieldAt 29 t60_17 0) fun t61_17 => 
  act Tryz.prog (thenU (Instr.storeAt 27 t61_17 t59_17)) (fun _ w_100 => 
  J_1  w_100) w_99) w_98) w_98) w_97
  ) ∧ (rd Tryz.prog (Instr.loadAt 27 t55) (fun t56_15 => 
  act Tryz.prog (Builtin.append_ #[27, 27] 27 #[t43_10, t51_12]) (fun t52_18 w_101 => 
  pur Tryz.prog (Instr.sliceAt 27 t56_15 (some v_k) none none) fun t58_15 => 
  act Tryz.prog (Builtin.append_ #[27, 27] 27 #[t52_18, t58_15]) (fun t59_18 w_102 => 
  pur Tryz.prog (nilV v_h) fun t60_18 => 
  pur Tryz.prog (Instr.fieldAt 29 t60_18 0) fun t61_18 => 
  act Tryz.prog (thenU (Instr.storeAt 27 t61_18 t59_18)) (fun _ w_103 => 
  J_1  w_103) w_102) w_101) w_97) w_97)) w_96
  ) ∧ (rd Tryz.prog (Instr.loadAt 27 t55) (fun t56_16 => 
  act Tryz.prog (Builtin.append_ #[27, 27] 27 #[(.slice none 0 0), t42_1]) (fun t43_11 w_104 => 
  act Tryz.prog (Builtin.append_ #[27, 27] 27 #[t43_11, t51_12]) (fun t52_19 w_105 => 
  pur Tryz.prog (Instr.sliceAt 27 t56_16 (some v_k) none none) fun t58_16 => 
  act Tryz.prog (Builtin.append_ #[27, 27] 27 #[t52_19, t58_16]) (fun t59_19 w_106 => 
  pur Tryz.prog (nilV v_h) fun t60_19 => 
  pur Tryz.prog (Instr.fieldAt 29 t60_19 0) fun t61_19 => 
  act Tryz.prog (thenU (Instr.storeAt 27 t61_19 t59_19)) (fun _ w_107 => 
  J_1  w_107) w_106) w_105) w_104) w_96) w_96)) (World.drew w_22)
  ) ∧ (rd Tryz.prog (Instr.loadAt 27 t55) (fun t56_17 => 
  pur Tryz.prog (Instr.sliceAt 27 t56_17 (some v_k) none none) fun t58_17 => 
  (act Tryz.prog (Builtin.append_ #[27, 27] 27 #[(.slice none 0 0), t42_1]) (fun t43_12 w_108 => 
  act Tryz.prog (Instr.buildSlice 27 1 #[(0, t50_4)]) (fun t51_13 w_109 => 
  act Tryz.prog (Builtin.append_ #[27, 27] 27 #[t43_12, t51_13]) (fun t52_20 w_110 => 
  act Tryz.prog (Builtin.append_ #[27, 27] 27 #[t52_20, t58_17]) (fun t59_20 w_111 => 
  pur Tryz.prog (nilV v_h) fun t60_20 => 
  pur Tryz.prog (Instr.fieldAt 29 t60_20 0) fun t61_20 => 
  act Tryz.prog (thenU (Instr.storeAt 27 t61_20 t59_20)) (fun _ w_112 => 
  J_1  w_112) w_111) w_110) w_109) w_108) (World.drew w_22)
  ) ∧ (act Tryz.prog (Instr.buildSlice 27 1 #[(0, t50_4)]) (fun t51_14 w_113 => 
  act Tryz.prog (Builtin.append_ #[27, 27] 27 #[(.slice none 0 0), t42_1]) (fun t43_13 w_114 => 
  act Tryz.prog (Builtin.append_ #[27, 27] 27 #[t43_13, t51_14]) (fun t52_21 w_115 => 
  act Tryz.prog (Builtin.append_ #[27, 27] 27 #[t52_21, t58_17]) (fun t59_21 w_116 => 
  pur Tryz.prog (nilV v_h) fun t60_21 => 
  pur Tryz.prog (Instr.fieldAt 29 t60_21 0) fun t61_21 => 
  act Tryz.prog (thenU (Instr.storeAt 27 t61_21 t59_21)) (fun _ w_117 => 
  J_1  w_117) w_116) w_115) w_114) w_113) (World.drew w_22))) (World.drew w_22))) (World.drew w_22)
  ) ∧ (act Tryz.prog (Instr.buildSlice 27 1 #[(0, t50_4)]) (fun t51_15 w_118 => 
  rd Tryz.prog (Instr.loadAt 27 t39) (fun t40_2 => 
  pur Tryz.prog (Instr.sliceAt 27 t40_2 none (some v_k) none) fun t42_2 => 
  (act Tryz.prog (Builtin.append_ #[27, 27] 27 #[(.slice none 0 0), t42_2]) (fun t43_14 w_119 => 
  (act Tryz.prog (Builtin.append_ #[27, 27] 27 #[t43_14, t51_15]) (fun t52_22 w_120 => 
  rd Tryz.prog (Instr.loadAt 27 t55) (fun t56_18 => 
  pur Tryz.prog (Instr.sliceAt 27 t56_18 (some v_k) none none) fun t58_18 => 
  act Tryz.prog (Builtin.append_ #[27, 27] 27 #[t52_22, t58_18]) (fun t59_22 w_121 => 
  pur Tryz.prog (nilV v_h) fun t60_22 => 
  pur Tryz.prog (Instr.fieldAt 29 t60_22 0) fun t61_22 => 
  act Tryz.prog (thenU (Instr.storeAt 27 t61_22 t59_22)) (fun _ w_122 => 
  J_1  w_122) w_121) w_120) w_120) w_119
  ) ∧ (rd Tryz.prog (Instr.loadAt 27 t55) (fun t56_19 => 
  act Tryz.prog (Builtin.append_ #[27, 27] 27 #[t43_14, t51_15]) (fun t52_23 w_123 => 
  pur Tryz.prog (Instr.sliceAt 27 t56_19 (some v_k) none none) fun t58_19 => 
  act Tryz.prog (Builtin.append_ #[27, 27] 27 #[t52_23, t58_19]) (fun t59_23 w_124 => 
  pur Tryz.prog (nilV v_h) fun t60_23 => 
  pur Tryz.prog (Instr.fieldAt 29 t60_23 0) fun t61_23 => 
  act Tryz.prog (thenU (Instr.storeAt 27 t61_23 t59_23)) (fun _ w_125 => 
  J_1  w_125) w_124) w_123) w_119) w_119)) w_118
  ) ∧ (rd Tryz.prog (Instr.loadAt 27 t55) (fun t56_20 => 
  act Tryz.prog (Builtin.append_ #[27, 27] 27 #[(.slice none 0 0), t42_2]) (fun t43_15 w_126 => 
  act Tryz.prog (Builtin.append_ #[27, 27] 27 #[t43_15, t51_15]) (fun t52_24 w_127 => 
  pur Tryz.prog (Instr.sliceAt 27 t56_20 (some v_k) none none) fun t58_20 => 
  act Tryz.prog (Builtin.append_ #[27, 27] 27 #[t52_24, t58_20]) (fun t59_24 w_128 => 
  pur Tryz.prog (nilV v_h) fun t60_24 => 
  pur Tryz.prog (Instr.fieldAt 29 t60_24 0) fun t61_24 => 
  act Tryz.prog (thenU (Instr.storeAt 27 t61_24 t59_24)) (fun _ w_129 => 
  J_1  w_129) w_128) w_127) w_126) w_118) w_118)) w_118) (World.drew w_22)
  ) ∧ (rd Tryz.prog (Instr.loadAt 27 t55) (fun t56_21 => 
  pur Tryz.prog (Instr.sliceAt 27 t56_21 (some v_k) none none) fun t58_21 => 
  (rd Tryz.prog (Instr.loadAt 27 t39) (fun t40_3 => 
  pur Tryz.prog (Instr.sliceAt 27 t40_3 none (some v_k) none) fun t42_3 => 
  (act Tryz.prog (Builtin.append_ #[27, 27] 27 #[(.slice none 0 0), t42_3]) (fun t43_16 w_130 => 
  act Tryz.prog (Instr.buildSlice 27 1 #[(0, t50_4)]) (fun t51_16 w_131 => 
  act Tryz.prog (Builtin.append_ #[27, 27] 27 #[t43_16, t51_16]) (fun t52_25 w_132 => 
  act Tryz.prog (Builtin.append_ #[27, 27] 27 #[t52_25, t58_21]) (fun t59_25 w_133 => 
  pur Tryz.prog (nilV v_h) fun t60_25 => 
  pur Tryz.prog (Instr.fieldAt 29 t60_25 0) fun t61_25 => 
  act Tryz.prog (thenU (Instr.storeAt 27 t61_25 t59_25)) (fun _ w_134 => 
  J_1  w_134) w_133) w_132) w_131) w_130) (World.drew w_22)
  ) ∧ (act Tryz.prog (Instr.buildSlice 27 1 #[(0, t50_4)]) (fun t51_17 w_135 => 
  act Tryz.prog (Builtin.append_ #[27, 27] 27 #[(.slice none 0 0), t42_3]) (fun t43_17 w_136 => 
  act Tryz.prog (Builtin.append_ #[27, 27] 27 #[t43_17, t51_17]) (fun t52_26 w_137 => 
  act Tryz.prog (Builtin.append_ #[27, 27] 27 #[t52_26, t58_21]) (fun t59_26 w_138 => 
  pur Tryz.prog (nilV v_h) fun t60_26 => 
  pur Tryz.prog (Instr.fieldAt 29 t60_26 0) fun t61_26 => 
  act Tryz.prog (thenU (Instr.storeAt 27 t61_26 t59_26)) (fun _ w_139 => 
  J_1  w_139) w_138) w_137) w_136) w_135) (World.drew w_22))) (World.drew w_22)
  ) ∧ (act Tryz.prog (Instr.buildSlice 27 1 #[(0, t50_4)]) (fun t51_18 w_140 => 
  rd Tryz.prog (Instr.loadAt 27 t39) (fun t40_4 => 
  pur Tryz.prog (Instr.sliceAt 27 t40_4 none (some v_k) none) fun t42_4 => 
  act Tryz.prog (Builtin.append_ #[27, 27] 27 #[(.slice none 0 0), t42_4]) (fun t43_18 w_141 => 
  act Tryz.prog (Builtin.append_ #[27, 27] 27 #[t43_18, t51_18]) (fun t52_27 w_142 => 
  act Tryz.prog (Builtin.append_ #[27, 27] 27 #[t52_27, t58_21]) (fun t59_27 w_143 => 
  pur Tryz.prog (nilV v_h) fun t60_27 => 
  pur Tryz.prog (Instr.fieldAt 29 t60_27 0) fun t61_27 => 
  act Tryz.prog (thenU (Instr.storeAt 27 t61_27 t59_27)) (fun _ w_144 => 
  J_1  w_144) w_143) w_142) w_141) w_140) w_140) (World.drew w_22))) (World.drew w_22))) (World.drew w_22)
  ) ∧ (rd Tryz.prog (Instr.loadAt 27 t55) (fun t56_22 => 
  pur Tryz.prog (Instr.sliceAt 27 t56_22 (some v_k) none none) fun t58_22 => 
  (rd Tryz.prog (Instr.loadAt 27 t39) (fun t40_5 => 
  pur Tryz.prog (Instr.sliceAt 27 t40_5 none (some v_k) none) fun t42_5 => 
  (act Tryz.prog (Builtin.append_ #[27, 27] 27 #[(.slice none 0 0), t42_5]) (fun t43_19 w_145 => 
  rd Tryz.prog (Instr.loadAt 3 t47) (fun t48_5 => 
  pur Tryz.prog (Instr.build 58 #[(0, v_at), (1, t48_5), (2, v_v)]) fun t50_5 => 
  act Tryz.prog (Instr.buildSlice 27 1 #[(0, t50_5)]) (fun t51_19 w_146 => 
  act Tryz.prog (Builtin.append_ #[27, 27] 27 #[t43_19, t51_19]) (fun t52_28 w_147 => 
  act Tryz.prog (Builtin.append_ #[27, 27] 27 #[t52_28, t58_22]) (fun t59_28 w_148 => 
  pur Tryz.prog (nilV v_h) fun t60_28 => 
  pur Tryz.prog (Instr.fieldAt 29 t60_28 0) fun t61_28 => 
  act Tryz.prog (thenU (Instr.storeAt 27 t61_28 t59_28)) (fun _ w_149 => 
  J_1  w_149) w_148) w_147) w_146) w_145) w_145) (World.drew w_22)
  ) ∧ (rd Tryz.prog (Instr.loadAt 3 t47) (fun t48_6 => 
  pur Tryz.prog (Instr.build 58 #[(0, v_at), (1, t48_6), (2, v_v)]) fun t50_6 => 
  (act Tryz.prog (Builtin.append_ #[27, 27] 27 #[(.slice none 0 0), t42_5]) (fun t43_20 w_150 => 
  act Tryz.prog (Instr.buildSlice 27 1 #[(0, t50_6)]) (fun t51_20 w_151 => 
  act Tryz.prog (Builtin.append_ #[27, 27] 27 #[t43_20, t51_20]) (fun t52_29 w_152 => 
  act Tryz.prog (Builtin.append_ #[27, 27] 27 #[t52_29, t58_22]) (fun t59_29 w_153 => 
  pur Tryz.prog (nilV v_h) fun t60_29 => 
  pur Tryz.prog (Instr.fieldAt 29 t60_29 0) fun t61_29 => 
  act Tryz.prog (thenU (Instr.storeAt 27 t61_29 t59_29)) (fun _ w_154 => 
  J_1  w_154) w_153) w_152) w_151) w_150) (World.drew w_22)
  ) ∧ (act Tryz.prog (Instr.buildSlice 27 1 #[(0, t50_6)]) (fun t51_21 w_155 => 
  act Tryz.prog (Builtin.append_ #[27, 27] 27 #[(.slice none 0 0), t42_5]) (fun t43_21 w_156 => 
  act Tryz.prog (Builtin.append_ #[27, 27] 27 #[t43_21, t51_21]) (fun t52_30 w_157 => 
  act Tryz.prog (Builtin.append_ #[27, 27] 27 #[t52_30, t58_22]) (fun t59_30 w_158 => 
  pur Tryz.prog (nilV v_h) fun t60_30 => 
  pur Tryz.prog (Instr.fieldAt 29 t60_30 0) fun t61_30 => 
  act Tryz.prog (thenU (Instr.storeAt 27 t61_30 t59_30)) (fun _ w_159 => 
  J_1  w_159) w_158) w_157) w_156) w_155) (World.drew w_22))) (World.drew w_22))) (World.drew w_22)
  ) ∧ (rd Tryz.prog (Instr.loadAt 3 t47) (fun t48_7 => 
  pur Tryz.prog (Instr.build 58 #[(0, v_at), (1, t48_7), (2, v_v)]) fun t50_7 => 
  (rd Tryz.prog (Instr.loadAt 27 t39) (fun t40_6 => 
  pur Tryz.prog (Instr.sliceAt 27 t40_6 none (some v_k) none) fun t42_6 => 
  (act Tryz.prog (Builtin.append_ #[27, 27] 27 #[(.slice none 0 0), t42_6]) (fun t43_22 w_160 => 
  act Tryz.prog (Instr.buildSlice 27 1 #[(0, t50_7)]) (fun t51_22 w_161 => 
  act Tryz.prog (Builtin.append_ #[27, 27] 27 #[t43_22, t51_22]) (fun t52_31 w_162 => 
  act Tryz.prog (Builtin.append_ #[27, 27] 27 #[t52_31, t58_22]) (fun t59_31 w_163 => 
  pur Tryz.prog (nilV v_h) fun t60_31 => 
  pur Tryz.prog (Instr.fieldAt 29 t60_31 0) fun t61_31 => 
  act Tryz.prog (thenU (Instr.storeAt 27 t61_31 t59_31)) (fun _ w_164 => 
  J_1  w_164) w_163) w_162) w_161) w_160) (World.drew w_22)
  ) ∧ (act Tryz.prog (Instr.buildSlice 27 1 #[(0, t50_7)]) (fun t51_23 w_165 => 
  act Tryz.prog (Builtin.append_ #[27, 27] 27 #[(.slice none 0 0), t42_6]) (fun t43_23 w_166 => 
  act Tryz.prog (Builtin.append_ #[27, 27] 27 #[t43_23, t51_23]) (fun t52_32 w_167 => 
  act Tryz.prog (Builtin.append_ #[27, 27] 27 #[t52_32, t58_22]) (fun t59_32 w_168 => 
  pur Tryz.prog (nilV v_h) fun t60_32 => 
  pur Tryz.prog (Instr.fieldAt 29 t60_32 0) fun t61_32 => 
  act Tryz.prog (thenU (Instr.storeAt 27 t61_32 t59_32)) (fun _ w_169 => 
  J_1  w_169) w_168) w_167) w_166) w_165) (World.drew w_22))) (World.drew w_22)
  ) ∧ (act Tryz.prog (Instr.buildSlice 27 1 #[(0, t50_7)]) (fun t51_24 w_170 => 
  rd Tryz.prog (Instr.loadAt 27 t39) (fun t40_7 => 
  pur Tryz.prog (Instr.sliceAt 27 t40_7 none (some v_k) none) fun t42_7 => 
  act Tryz.prog (Builtin.append_ #[27, 27] 27 #[(.slice none 0 0), t42_7]) (fun t43_24 w_171 => 
  act Tryz.prog (Builtin.append_ #[27, 27] 27 #[t43_24, t51_24]) (fun t52_33 w_172 => 
  act Tryz.prog (Builtin.append_ #[27, 27] 27 #[t52_33, t58_22]) (fun t59_33 w_173 => 
  pur Tryz.prog (nilV v_h) fun t60_33 => 
  pur Tryz.prog (Instr.fieldAt 29 t60_33 0) fun t61_33 => 
  act Tryz.prog (thenU (Instr.storeAt 27 t61_33 t59_33)) (fun _ w_174 => 
  J_1  w_174) w_173) w_172) w_171) w_170) w_170) (World.drew w_22))) (World.drew w_22))) (World.drew w_22)))
 (fun  w_175 => ∀ _j : Fr, 
  pur Tryz.prog (nilV v_h) fun t63 => 
 pur Tryz.prog (Instr.fieldAt 29 t63 1) fun t64 => 
 rd Tryz.prog (Instr.loadAt 3 t64) (fun t65 => 
 Q t65 w_175) w_175))) w_20) w_18) w_16) w_14) w_12) w_10) w_8) w_6) w_4) w_2) w_2) [(.int .i64 0)] w_1) w) w
theorem eq11 (v_h v_at v_v : Value) (Q : Value → World → Prop) (w : World) : semF Tryz.prog 11 [v_h, v_at, v_v] Q w = S11 v_h v_at v_v Q w := by kernel_rfl
theorem ref11 {v_h v_at v_v : Value} {Q : Value → World → Prop} {w : World} (h : S11 v_h v_at v_v Q w) : callS Tryz.prog 11 #[v_h, v_at, v_v] Q w :=
  callS_of mix (fun a w => Tryz.call11 a w) (by kernel_rfl) (by rw [eq11]; exact h)
-- (*commons/heap.Heap[int]).Take
def S12 (v_h v_now : Value) (Q : Value → World → Prop) (w : World) : Prop :=
 callS Tryz.prog 17 #[v_h] (fun t12 w_1 => 
 pur Tryz.prog (Instr.extract t12 0) fun t13 => 
 pur Tryz.prog (Instr.extract t12 1) fun t14 => 
 pur Tryz.prog (Instr.extract t12 2) fun t15 => 
 pur Tryz.prog (Op.unary .not t15) fun t17 => 
 gd t17 false (fun k w_2 => k t13 w_2) (fun t19_1 w_3 => 
 gd t17 false (fun k_1 w_4 => k_1 v_now w_4) (fun t20_1 w_5 => 
 gd t17 false (fun k_2 w_6 => pur Tryz.prog (binS .gtr 3 false false t19_1 t20_1) fun t21 => k_2 t21 w_6) (fun t21_1 w_7 => 
 pur Tryz.prog (pickS t17 (.bool true) t21_1) fun t22 => 
 condS t22
  (Q (.tuple #[(.int .i64 0), (.bool false)]) w_7)
  (pur Tryz.prog (nilV v_h) fun t26 => 
 pur Tryz.prog (Instr.fieldAt 33 t26 0) fun t27 => 
 rd Tryz.prog (Instr.loadAt 30 t27) (fun t28 => 
 pur Tryz.prog (Instr.indexAt 30 t28 (.int .i64 0)) fun t29 => 
 rd Tryz.prog (Instr.loadAt 155 t29) (fun t30 => 
 pur Tryz.prog (nilV t30) fun t31 => 
 pur Tryz.prog (Instr.fieldAt 157 t31 1) fun t32 => 
 rd Tryz.prog (Instr.loadAt 3 t32) (fun t33 => 
 callS Tryz.prog 15 #[v_h, t33] (fun _ w_8 => 
 Q (.tuple #[t14, (.bool true)]) w_8) w_7) w_7) w_7) w_7)) w_5) w_3) w_1) w
theorem eq12 (v_h v_now : Value) (Q : Value → World → Prop) (w : World) : semF Tryz.prog 12 [v_h, v_now] Q w = S12 v_h v_now Q w := by kernel_rfl
theorem ref12 {v_h v_now : Value} {Q : Value → World → Prop} {w : World} (h : S12 v_h v_now Q w) : callS Tryz.prog 12 #[v_h, v_now] Q w :=
  callS_of mix (fun a w => Tryz.call12 a w) (by kernel_rfl) (by rw [eq12]; exact h)
-- (*commons/commonsref1.Heap).Out
def S13 (v_h v_k : Value) (Q : Value → World → Prop) (w : World) : Prop :=
 jn 0 (fun J => 
  pur Tryz.prog (nilV v_h) fun t6 => 
  pur Tryz.prog (Instr.fieldAt 29 t6 0) fun t7 => 
  rd Tryz.prog (Instr.loadAt 27 t7) (fun t8 => 
  pur Tryz.prog (Instr.sliceAt 27 t8 none (some v_k) none) fun t10 => 
  pur Tryz.prog (nilV v_h) fun t13 => 
  pur Tryz.prog (Instr.fieldAt 29 t13 0) fun t14 => 
  pur Tryz.prog (binS .add 3 false true v_k (.int .i64 1)) fun t17 => 
  (act Tryz.prog (Builtin.append_ #[27, 27] 27 #[(.slice none 0 0), t10]) (fun t11 w_1 => 
  rd Tryz.prog (Instr.loadAt 27 t14) (fun t15 => 
  pur Tryz.prog (Instr.sliceAt 27 t15 (some t17) none none) fun t18 => 
  act Tryz.prog (Builtin.append_ #[27, 27] 27 #[t11, t18]) (fun t19 w_2 => 
  pur Tryz.prog (nilV v_h) fun t20 => 
  pur Tryz.prog (Instr.fieldAt 29 t20 0) fun t21 => 
  act Tryz.prog (thenU (Instr.storeAt 27 t21 t19)) (fun _ w_3 => 
  J  w_3) w_2) w_1) w_1) (World.drew w)
  ) ∧ (rd Tryz.prog (Instr.loadAt 27 t14) (fun t15_1 => 
  act Tryz.prog (Builtin.append_ #[27, 27] 27 #[(.slice none 0 0), t10]) (fun t11_1 w_4 => 
  pur Tryz.prog (Instr.sliceAt 27 t15_1 (some t17) none none) fun t18_1 => 
  act Tryz.prog (Builtin.append_ #[27, 27] 27 #[t11_1, t18_1]) (fun t19_1 w_5 => 
  pur Tryz.prog (nilV v_h) fun t20_1 => 
  pur Tryz.prog (Instr.fieldAt 29 t20_1 0) fun t21_1 => 
  act Tryz.prog (thenU (Instr.storeAt 27 t21_1 t19_1)) (fun _ w_6 => 
  J  w_6) w_5) w_4) (World.drew w)) (World.drew w))) (World.drew w))
 (fun  w_7 => ∀ _j : Fr, 
  Q (.tuple #[]) w_7)
theorem eq13 (v_h v_k : Value) (Q : Value → World → Prop) (w : World) : semF Tryz.prog 13 [v_h, v_k] Q w = S13 v_h v_k Q w := by kernel_rfl
theorem ref13 {v_h v_k : Value} {Q : Value → World → Prop} {w : World} (h : S13 v_h v_k Q w) : callS Tryz.prog 13 #[v_h, v_k] Q w :=
  callS_of mix (fun a w => Tryz.call13 a w) (by kernel_rfl) (by rw [eq13]; exact h)
-- (*commons/commonsref1.Heap).Find
def S14 (v_h v_id : Value) (Q : Value → World → Prop) (w : World) : Prop :=
 lp 1 (fun J => fun v_i w_1 => ∀ _j : Fr, 
  pur Tryz.prog (nilV v_h) fun t8 => 
  pur Tryz.prog (Instr.fieldAt 29 t8 0) fun t9 => 
  rd Tryz.prog (Instr.loadAt 27 t9) (fun t10 => 
  pur Tryz.prog (Builtin.len_ #[27] 3 #[t10]) fun t11 => 
  pur Tryz.prog (binS .lss 3 false false v_i t11) fun t12 => 
  condS t12
   (pur Tryz.prog (nilV v_h) fun t16 => 
  pur Tryz.prog (Instr.fieldAt 29 t16 0) fun t17 => 
  rd Tryz.prog (Instr.loadAt 27 t17) (fun t18 => 
  pur Tryz.prog (Instr.indexAt 27 t18 v_i) fun t20 => 
  pur Tryz.prog (Instr.fieldAt 58 t20 1) fun t21 => 
  rd Tryz.prog (Instr.loadAt 3 t21) (fun t22 => 
  pur Tryz.prog (binS .eql 3 false false t22 v_id) fun t24 => 
  condS t24
   (Q v_i w_1)
   (pur Tryz.prog (binS .add 3 false true v_i (.int .i64 1)) fun t14 => 
  J t14 w_1)) w_1) w_1)
   (Q (.int .i64 (-1)) w_1)) w_1) [(.int .i64 0)] w
theorem eq14 (v_h v_id : Value) (Q : Value → World → Prop) (w : World) : semF Tryz.prog 14 [v_h, v_id] Q w = S14 v_h v_id Q w := by kernel_rfl
theorem ref14 {v_h v_id : Value} {Q : Value → World → Prop} {w : World} (h : S14 v_h v_id Q w) : callS Tryz.prog 14 #[v_h, v_id] Q w :=
  callS_of mix (fun a w => Tryz.call14 a w) (by kernel_rfl) (by rw [eq14]; exact h)
-- (*commons/heap.Heap[int]).Cancel
def S15 (v_h v_id : Value) (Q : Value → World → Prop) (w : World) : Prop :=
 rd Tryz.prog (binS .eql 24 false true v_h (.pointer none)) (fun t8 => 
 gd t8 false (fun k w_1 => k v_h w_1) (fun t10_1 w_2 => 
 gd t8 false (fun k_1 w_3 => pur Tryz.prog (nilV t10_1) fun t11 => k_1 t11 w_3) (fun t11_1 w_4 => 
 gd t8 false (fun k_2 w_5 => pur Tryz.prog (Instr.fieldAt 33 t11_1 1) fun t12 => k_2 t12 w_5) (fun t12_1 w_6 => 
 gd t8 false (fun k_3 w_7 => rd Tryz.prog (Instr.loadAt 31 t12_1) (fun t13 => k_3 t13 w_7) w_7) (fun t13_1 w_8 => 
 gd t8 false (fun k_4 w_9 => k_4 v_id w_9) (fun t14_1 w_10 => 
 gd t8 false (fun k_5 w_11 => rd Tryz.prog (Instr.lookup 31 t13_1 t14_1 false) (fun t15 => k_5 t15 w_11) w_11) (fun t15_1 w_12 => 
 gd t8 false (fun k_6 w_13 => rd Tryz.prog (binS .eql 155 false true t15_1 (.pointer none)) (fun t16 => k_6 t16 w_13) w_13) (fun t16_1 w_14 => 
 pur Tryz.prog (pickS t8 (.bool true) t16_1) fun t17 => 
 condS t17
  (Q (.bool false) w_14)
  (pur Tryz.prog (nilV v_h) fun t19 => 
 pur Tryz.prog (Instr.fieldAt 33 t19 1) fun t20 => 
 rd Tryz.prog (Instr.loadAt 31 t20) (fun t21 => 
 rd Tryz.prog (Instr.lookup 31 t21 v_id false) (fun t23 => 
 pur Tryz.prog (nilV t23) fun t24 => 
 pur Tryz.prog (Instr.fieldAt 157 t24 3) fun t25 => 
 rd Tryz.prog (Instr.loadAt 3 t25) (fun t26 => 
 pur Tryz.prog (nilV v_h) fun t28 => 
 pur Tryz.prog (Instr.fieldAt 33 t28 0) fun t29 => 
 rd Tryz.prog (Instr.loadAt 30 t29) (fun t30 => 
 pur Tryz.prog (Builtin.len_ #[30] 3 #[t30]) fun t31 => 
 pur Tryz.prog (binS .sub 3 false true t31 (.int .i64 1)) fun t32 => 
 callS Tryz.prog 96 #[v_h, t26, t32] (fun _ w_15 => 
 pur Tryz.prog (nilV v_h) fun t38 => 
 pur Tryz.prog (Instr.fieldAt 33 t38 0) fun t39 => 
 rd Tryz.prog (Instr.loadAt 30 t39) (fun t40 => 
 pur Tryz.prog (Instr.indexAt 30 t40 t32) fun t42 => 
 act Tryz.prog (thenU (Instr.storeAt 155 t42 (.pointer none))) (fun _ w_16 => 
 pur Tryz.prog (nilV v_h) fun t45 => 
 pur Tryz.prog (Instr.fieldAt 33 t45 0) fun t46 => 
 rd Tryz.prog (Instr.loadAt 30 t46) (fun t47 => 
 pur Tryz.prog (Instr.sliceAt 30 t47 none (some t32) none) fun t49 => 
 pur Tryz.prog (nilV v_h) fun t50 => 
 pur Tryz.prog (Instr.fieldAt 33 t50 0) fun t51 => 
 act Tryz.prog (thenU (Instr.storeAt 30 t51 t49)) (fun _ w_17 => 
 pur Tryz.prog (nilV v_h) fun t53 => 
 pur Tryz.prog (Instr.fieldAt 33 t53 1) fun t54 => 
 rd Tryz.prog (Instr.loadAt 31 t54) (fun t55 => 
 act Tryz.prog (Builtin.delete_ #[31, 3] 0 #[t55, v_id]) (fun _ w_18 => 
 jn 0 (fun J => 
  pur Tryz.prog (binS .lss 3 false false t26 t32) fun t59 => 
  condS t59
   (callS Tryz.prog 95 #[v_h, t26] (fun _ w_19 => 
   callS Tryz.prog 97 #[v_h, t26] (fun _ w_20 => 
   J  w_20) w_19) w_18)
   (J  w_18))
 (fun  w_21 => ∀ _j : Fr, 
  Q (.bool true) w_21)) w_17) w_17) w_16) w_16) w_15) w_15) (World.drew w_14)) (World.drew w_14)) (World.drew w_14)) (World.drew w_14)) (World.drew w_14))) w_12) w_10) w_8) w_6) w_4) w_2) w) w
theorem eq15 (v_h v_id : Value) (Q : Value → World → Prop) (w : World) : semF Tryz.prog 15 [v_h, v_id] Q w = S15 v_h v_id Q w := by kernel_rfl
theorem ref15 {v_h v_id : Value} {Q : Value → World → Prop} {w : World} (h : S15 v_h v_id Q w) : callS Tryz.prog 15 #[v_h, v_id] Q w :=
  callS_of mix (fun a w => Tryz.call15 a w) (by kernel_rfl) (by rw [eq15]; exact h)
-- (*commons/heap.Heap[int]).At
def S16 (v_h v_id : Value) (Q : Value → World → Prop) (w : World) : Prop :=
 rd Tryz.prog (binS .eql 24 false true v_h (.pointer none)) (fun t7 => 
 gd t7 false (fun k w_1 => k v_h w_1) (fun t9_1 w_2 => 
 gd t7 false (fun k_1 w_3 => pur Tryz.prog (nilV t9_1) fun t10 => k_1 t10 w_3) (fun t10_1 w_4 => 
 gd t7 false (fun k_2 w_5 => pur Tryz.prog (Instr.fieldAt 33 t10_1 1) fun t11 => k_2 t11 w_5) (fun t11_1 w_6 => 
 gd t7 false (fun k_3 w_7 => rd Tryz.prog (Instr.loadAt 31 t11_1) (fun t12 => k_3 t12 w_7) w_7) (fun t12_1 w_8 => 
 gd t7 false (fun k_4 w_9 => k_4 v_id w_9) (fun t13_1 w_10 => 
 gd t7 false (fun k_5 w_11 => rd Tryz.prog (Instr.lookup 31 t12_1 t13_1 false) (fun t14 => k_5 t14 w_11) w_11) (fun t14_1 w_12 => 
 gd t7 false (fun k_6 w_13 => rd Tryz.prog (binS .eql 155 false true t14_1 (.pointer none)) (fun t15 => k_6 t15 w_13) w_13) (fun t15_1 w_14 => 
 pur Tryz.prog (pickS t7 (.bool true) t15_1) fun t16 => 
 condS t16
  (Q (.tuple #[(.int .i64 0), (.bool false)]) w_14)
  (pur Tryz.prog (nilV v_h) fun t18 => 
 pur Tryz.prog (Instr.fieldAt 33 t18 1) fun t19 => 
 rd Tryz.prog (Instr.loadAt 31 t19) (fun t20 => 
 rd Tryz.prog (Instr.lookup 31 t20 v_id false) (fun t22 => 
 pur Tryz.prog (nilV t22) fun t23 => 
 pur Tryz.prog (Instr.fieldAt 157 t23 0) fun t24 => 
 rd Tryz.prog (Instr.loadAt 3 t24) (fun t25 => 
 Q (.tuple #[t25, (.bool true)]) w_14) w_14) w_14) w_14)) w_12) w_10) w_8) w_6) w_4) w_2) w) w
theorem eq16 (v_h v_id : Value) (Q : Value → World → Prop) (w : World) : semF Tryz.prog 16 [v_h, v_id] Q w = S16 v_h v_id Q w := by kernel_rfl
theorem ref16 {v_h v_id : Value} {Q : Value → World → Prop} {w : World} (h : S16 v_h v_id Q w) : callS Tryz.prog 16 #[v_h, v_id] Q w :=
  callS_of mix (fun a w => Tryz.call16 a w) (by kernel_rfl) (by rw [eq16]; exact h)
-- (*commons/heap.Heap[int]).First
def S17 (v_h : Value) (Q : Value → World → Prop) (w : World) : Prop :=
 callS Tryz.prog 21 #[v_h] (fun t7 w_1 => 
 pur Tryz.prog (binS .eql 3 false true t7 (.int .i64 0)) fun t8 => 
 condS t8
  (Q (.tuple #[(.int .i64 0), (.int .i64 0), (.bool false)]) w_1)
  (pur Tryz.prog (nilV v_h) fun t11 => 
 pur Tryz.prog (Instr.fieldAt 33 t11 0) fun t12 => 
 rd Tryz.prog (Instr.loadAt 30 t12) (fun t13 => 
 pur Tryz.prog (Instr.indexAt 30 t13 (.int .i64 0)) fun t14 => 
 rd Tryz.prog (Instr.loadAt 155 t14) (fun t15 => 
 pur Tryz.prog (nilV t15) fun t16 => 
 pur Tryz.prog (Instr.fieldAt 157 t16 0) fun t17 => 
 rd Tryz.prog (Instr.loadAt 3 t17) (fun t18 => 
 pur Tryz.prog (nilV v_h) fun t20 => 
 pur Tryz.prog (Instr.fieldAt 33 t20 0) fun t21 => 
 rd Tryz.prog (Instr.loadAt 30 t21) (fun t22 => 
 pur Tryz.prog (Instr.indexAt 30 t22 (.int .i64 0)) fun t23 => 
 rd Tryz.prog (Instr.loadAt 155 t23) (fun t24 => 
 pur Tryz.prog (nilV t24) fun t25 => 
 pur Tryz.prog (Instr.fieldAt 157 t25 2) fun t26 => 
 rd Tryz.prog (Instr.loadAt 3 t26) (fun t27 => 
 Q (.tuple #[t18, t27, (.bool true)]) (World.drew w_1)) (World.drew w_1)) (World.drew w_1)) (World.drew w_1)) (World.drew w_1)) (World.drew w_1)) (World.drew w_1))) w
theorem eq17 (v_h : Value) (Q : Value → World → Prop) (w : World) : semF Tryz.prog 17 [v_h] Q w = S17 v_h Q w := by kernel_rfl
theorem ref17 {v_h : Value} {Q : Value → World → Prop} {w : World} (h : S17 v_h Q w) : callS Tryz.prog 17 #[v_h] Q w :=
  callS_of mix (fun a w => Tryz.call17 a w) (by kernel_rfl) (by rw [eq17]; exact h)
-- (*commons/heap.Heap[int]).List
def S18 (v_h : Value) (Q : Value → World → Prop) (w : World) : Prop :=
 rd Tryz.prog (binS .eql 24 false true v_h (.pointer none)) (fun t7 => 
 condS t7
  (Q (.slice none 0 0) w)
  (pur Tryz.prog (nilV v_h) fun t9 => 
 pur Tryz.prog (Instr.fieldAt 33 t9 0) fun t10 => 
 rd Tryz.prog (Instr.loadAt 30 t10) (fun t11 => 
 callS Tryz.prog 99 #[t11] (fun t12 w_1 => 
 callS Tryz.prog 98 #[t12, (.func (.func 100) #[] #[])] (fun t13 w_2 => 
 pur Tryz.prog (Builtin.len_ #[30] 3 #[t13]) fun t14 => 
 lp 2 (fun J => fun v_out t15 w_3 => ∀ _j : Fr, 
  pur Tryz.prog (binS .lss 3 false false t15 t14) fun t16 => 
  condS t16
   (pur Tryz.prog (Instr.indexAt 30 t13 t15) fun t17 => 
  rd Tryz.prog (Instr.loadAt 155 t17) (fun t18 => 
  pur Tryz.prog (nilV t18) fun t21 => 
  pur Tryz.prog (Instr.fieldAt 157 t21 2) fun t22 => 
  rd Tryz.prog (Instr.loadAt 3 t22) (fun t23 => 
  act Tryz.prog (Instr.buildSlice 64 1 #[(0, t23)]) (fun t24 w_4 => 
  act Tryz.prog (Builtin.append_ #[64, 64] 64 #[v_out, t24]) (fun t25 w_5 => 
  pur Tryz.prog (binS .add 3 false true t15 (.int .i64 1)) fun t26 => 
  J t25 t26 w_5) w_4) w_3) w_3) w_3)
   (Q v_out w_3)) [(.slice none 0 0), (.int .i64 0)] w_2) w_1) w) w)) w
theorem eq18 (v_h : Value) (Q : Value → World → Prop) (w : World) : semF Tryz.prog 18 [v_h] Q w = S18 v_h Q w := by kernel_rfl
theorem ref18 {v_h : Value} {Q : Value → World → Prop} {w : World} (h : S18 v_h Q w) : callS Tryz.prog 18 #[v_h] Q w :=
  callS_of mix (fun a w => Tryz.call18 a w) (by kernel_rfl) (by rw [eq18]; exact h)
-- (*commons/commonsbook.Book).Ints
def S19 (v_b v_l : Value) (Q : Value → World → Prop) (w : World) : Prop :=
 pur Tryz.prog (nilV v_b) fun t5 => 
 pur Tryz.prog (Instr.fieldAt 51 t5 2) fun t6 => 
 rd Tryz.prog (Instr.loadAt 36 t6) (fun t7 => 
 pur Tryz.prog (Builtin.len_ #[36] 3 #[t7]) fun t8 => 
 pur Tryz.prog (binS .lss 3 false true t8 (.int .i64 250)) fun t9 => 
 condS t9
  (pur Tryz.prog (nilV v_b) fun t12 => 
  pur Tryz.prog (Instr.fieldAt 51 t12 2) fun t13 => 
  rd Tryz.prog (Instr.loadAt 36 t13) (fun t14 => 
  act Tryz.prog (Instr.buildSlice 36 1 #[(0, v_l)]) (fun t16 w_1 => 
  act Tryz.prog (Builtin.append_ #[36, 36] 36 #[t14, t16]) (fun t17 w_2 => 
  pur Tryz.prog (nilV v_b) fun t18 => 
  pur Tryz.prog (Instr.fieldAt 51 t18 2) fun t19 => 
  act Tryz.prog (thenU (Instr.storeAt 36 t19 t17)) (fun _ w_3 => 
  jn 0 (fun J => 
   pur Tryz.prog (nilV v_b) fun t22 => 
   pur Tryz.prog (Instr.fieldAt 51 t22 3) fun t23 => 
   (rd Tryz.prog (Instr.loadAt 36 t23) (fun t24 => 
   callS Tryz.prog 101 #[v_l] (fun t26 w_4 => 
   act Tryz.prog (Instr.buildSlice 36 1 #[(0, t26)]) (fun t27 w_5 => 
   act Tryz.prog (Builtin.append_ #[36, 36] 36 #[t24, t27]) (fun t28 w_6 => 
   pur Tryz.prog (nilV v_b) fun t29 => 
   pur Tryz.prog (Instr.fieldAt 51 t29 3) fun t30 => 
   act Tryz.prog (thenU (Instr.storeAt 36 t30 t28)) (fun _ w_7 => 
   J  w_7) w_6) w_5) w_4) (World.drew w_3)) (World.drew w_3)
   ) ∧ (callS Tryz.prog 101 #[v_l] (fun t26_1 w_8 => 
   (rd Tryz.prog (Instr.loadAt 36 t23) (fun t24_1 => 
   act Tryz.prog (Instr.buildSlice 36 1 #[(0, t26_1)]) (fun t27_1 w_9 => 
   act Tryz.prog (Builtin.append_ #[36, 36] 36 #[t24_1, t27_1]) (fun t28_1 w_10 => 
   pur Tryz.prog (nilV v_b) fun t29_1 => 
   pur Tryz.prog (Instr.fieldAt 51 t29_1 3) fun t30_1 => 
   act Tryz.prog (thenU (Instr.storeAt 36 t30_1 t28_1)) (fun _ w_11 => 
   J  w_11) w_10) w_9) w_8) w_8
   ) ∧ (act Tryz.prog (Instr.buildSlice 36 1 #[(0, t26_1)]) (fun t27_2 w_12 => 
   rd Tryz.prog (Instr.loadAt 36 t23) (fun t24_2 => 
   act Tryz.prog (Builtin.append_ #[36, 36] 36 #[t24_2, t27_2]) (fun t28_2 w_13 => 
   pur Tryz.prog (nilV v_b) fun t29_2 => 
   pur Tryz.prog (Instr.fieldAt 51 t29_2 3) fun t30_2 => 
   act Tryz.prog (thenU (Instr.storeAt 36 t30_2 t28_2)) (fun _ w_14 => 
   J  w_14) w_13) w_12) w_12) w_8)) (World.drew w_3)))
  (fun  w_15 => ∀ _j : Fr, 
   Q (.tuple #[]) w_15)) w_2) w_1) w) w)
  (Q (.tuple #[]) w)) w
theorem eq19 (v_b v_l : Value) (Q : Value → World → Prop) (w : World) : semF Tryz.prog 19 [v_b, v_l] Q w = S19 v_b v_l Q w := by kernel_rfl
theorem ref19 {v_b v_l : Value} {Q : Value → World → Prop} {w : World} (h : S19 v_b v_l Q w) : callS Tryz.prog 19 #[v_b, v_l] Q w :=
  callS_of mix (fun a w => Tryz.call19 a w) (by kernel_rfl) (by rw [eq19]; exact h)
-- commons/commonsbook.SameInts
def S20 (v_a v_b : Value) (Q : Value → World → Prop) (w : World) : Prop :=
 pur Tryz.prog (Builtin.len_ #[64] 3 #[v_a]) fun t7 => 
 pur Tryz.prog (Builtin.len_ #[64] 3 #[v_b]) fun t9 => 
 pur Tryz.prog (binS .neq 3 false false t7 t9) fun t10 => 
 condS t10
  (Q (.bool false) w)
  (lp 1 (fun J => fun v_i w_1 => ∀ _j : Fr, 
  pur Tryz.prog (Builtin.len_ #[64] 3 #[v_a]) fun t13 => 
  pur Tryz.prog (binS .lss 3 false false v_i t13) fun t14 => 
  condS t14
   (pur Tryz.prog (Instr.indexAt 64 v_a v_i) fun t19 => 
  rd Tryz.prog (Instr.loadAt 3 t19) (fun t20 => 
  pur Tryz.prog (Instr.indexAt 64 v_b v_i) fun t23 => 
  rd Tryz.prog (Instr.loadAt 3 t23) (fun t24 => 
  pur Tryz.prog (binS .eql 3 false false t20 t24) fun t25 => 
  pur Tryz.prog (Op.unary .not t25) fun t26 => 
  condS t26
   (Q (.bool false) (World.drew w_1))
   (pur Tryz.prog (binS .add 3 false true v_i (.int .i64 1)) fun t16 => 
  J t16 (World.drew w_1))) (World.drew w_1)) (World.drew w_1))
   (Q (.bool true) w_1)) [(.int .i64 0)] w)
theorem eq20 (v_a v_b : Value) (Q : Value → World → Prop) (w : World) : semF Tryz.prog 20 [v_a, v_b] Q w = S20 v_a v_b Q w := by kernel_rfl
theorem ref20 {v_a v_b : Value} {Q : Value → World → Prop} {w : World} (h : S20 v_a v_b Q w) : callS Tryz.prog 20 #[v_a, v_b] Q w :=
  callS_of mix (fun a w => Tryz.call20 a w) (by kernel_rfl) (by rw [eq20]; exact h)
-- (*commons/heap.Heap[int]).Len
def S21 (v_h : Value) (Q : Value → World → Prop) (w : World) : Prop :=
 rd Tryz.prog (binS .eql 24 false true v_h (.pointer none)) (fun t4 => 
 condS t4
  (Q (.int .i64 0) w)
  (pur Tryz.prog (nilV v_h) fun t6 => 
 pur Tryz.prog (Instr.fieldAt 33 t6 0) fun t7 => 
 rd Tryz.prog (Instr.loadAt 30 t7) (fun t8 => 
 pur Tryz.prog (Builtin.len_ #[30] 3 #[t8]) fun t9 => 
 Q t9 w) w)) w
theorem eq21 (v_h : Value) (Q : Value → World → Prop) (w : World) : semF Tryz.prog 21 [v_h] Q w = S21 v_h Q w := by kernel_rfl
theorem ref21 {v_h : Value} {Q : Value → World → Prop} {w : World} (h : S21 v_h Q w) : callS Tryz.prog 21 #[v_h] Q w :=
  callS_of mix (fun a w => Tryz.call21 a w) (by kernel_rfl) (by rw [eq21]; exact h)
-- (*commons/commonsbook.Book).Apart
def S22 (v_b : Value) (Q : Value → World → Prop) (w : World) : Prop :=
 callS Tryz.prog 102 #[v_b] (fun t19 w_1 => 
 pur Tryz.prog (Op.unary .not t19) fun t20 => 
 condS t20
  (Q (.bool false) w_1)
  (callS Tryz.prog 103 #[v_b] (fun t22 w_2 => 
 pur Tryz.prog (Op.unary .not t22) fun t23 => 
 condS t23
  (Q (.bool false) w_2)
  (callS Tryz.prog 104 #[v_b] (fun t25 w_3 => 
 pur Tryz.prog (Op.unary .not t25) fun t26 => 
 condS t26
  (Q (.bool false) w_3)
  (callS Tryz.prog 105 #[v_b] (fun t28 w_4 => 
 pur Tryz.prog (Op.unary .not t28) fun t29 => 
 condS t29
  (Q (.bool false) w_4)
  (callS Tryz.prog 106 #[v_b] (fun t31 w_5 => 
 pur Tryz.prog (Op.unary .not t31) fun t32 => 
 condS t32
  (Q (.bool false) w_5)
  (callS Tryz.prog 107 #[v_b] (fun t34 w_6 => 
 pur Tryz.prog (Op.unary .not t34) fun t35 => 
 condS t35
  (Q (.bool false) w_6)
  (callS Tryz.prog 108 #[v_b] (fun t37 w_7 => 
 pur Tryz.prog (Op.unary .not t37) fun t38 => 
 condS t38
  (Q (.bool false) w_7)
  (callS Tryz.prog 109 #[v_b] (fun t40 w_8 => 
 pur Tryz.prog (Op.unary .not t40) fun t41 => 
 condS t41
  (Q (.bool false) w_8)
  (callS Tryz.prog 110 #[v_b] (fun t43 w_9 => 
 pur Tryz.prog (Op.unary .not t43) fun t44 => 
 condS t44
  (Q (.bool false) w_9)
  (callS Tryz.prog 111 #[v_b] (fun t46 w_10 => 
 pur Tryz.prog (Op.unary .not t46) fun t47 => 
 condS t47
  (Q (.bool false) w_10)
  (callS Tryz.prog 112 #[v_b] (fun t49 w_11 => 
 pur Tryz.prog (Op.unary .not t49) fun t50 => 
 condS t50
  (Q (.bool false) w_11)
  (callS Tryz.prog 113 #[v_b] (fun t52 w_12 => 
 pur Tryz.prog (Op.unary .not t52) fun t53 => 
 condS t53
  (Q (.bool false) w_12)
  (callS Tryz.prog 114 #[v_b] (fun t55 w_13 => 
 pur Tryz.prog (Op.unary .not t55) fun t56 => 
 condS t56
  (Q (.bool false) w_13)
  (callS Tryz.prog 115 #[v_b] (fun t58 w_14 => 
 pur Tryz.prog (Op.unary .not t58) fun t59 => 
 condS t59
  (Q (.bool false) w_14)
  (callS Tryz.prog 116 #[v_b] (fun t61 w_15 => 
 pur Tryz.prog (Op.unary .not t61) fun t62 => 
 condS t62
  (Q (.bool false) w_15)
  (callS Tryz.prog 117 #[v_b] (fun _ w_16 => 
 callS Tryz.prog 118 #[v_b] (fun _ w_17 => 
 callS Tryz.prog 119 #[v_b] (fun _ w_18 => 
 callS Tryz.prog 120 #[v_b] (fun _ w_19 => 
 callS Tryz.prog 121 #[v_b] (fun _ w_20 => 
 callS Tryz.prog 122 #[v_b] (fun _ w_21 => 
 callS Tryz.prog 123 #[v_b] (fun _ w_22 => 
 callS Tryz.prog 124 #[v_b] (fun _ w_23 => 
 callS Tryz.prog 125 #[v_b] (fun _ w_24 => 
 callS Tryz.prog 126 #[v_b] (fun _ w_25 => 
 callS Tryz.prog 127 #[v_b] (fun _ w_26 => 
 callS Tryz.prog 128 #[v_b] (fun _ w_27 => 
 callS Tryz.prog 129 #[v_b] (fun _ w_28 => 
 callS Tryz.prog 130 #[v_b] (fun _ w_29 => 
 callS Tryz.prog 131 #[v_b] (fun _ w_30 => 
 callS Tryz.prog 132 #[v_b] (fun t94 w_31 => 
 callS Tryz.prog 133 #[v_b] (fun t96 w_32 => 
 callS Tryz.prog 134 #[v_b] (fun t98 w_33 => 
 callS Tryz.prog 135 #[v_b] (fun t100 w_34 => 
 callS Tryz.prog 136 #[v_b] (fun t102 w_35 => 
 callS Tryz.prog 137 #[v_b] (fun t104 w_36 => 
 callS Tryz.prog 138 #[v_b] (fun t106 w_37 => 
 callS Tryz.prog 139 #[v_b] (fun t108 w_38 => 
 callS Tryz.prog 140 #[v_b] (fun t110 w_39 => 
 callS Tryz.prog 141 #[v_b] (fun t112 w_40 => 
 callS Tryz.prog 142 #[v_b] (fun t114 w_41 => 
 callS Tryz.prog 143 #[v_b] (fun t116 w_42 => 
 callS Tryz.prog 144 #[v_b] (fun t118 w_43 => 
 callS Tryz.prog 145 #[v_b] (fun t120 w_44 => 
 callS Tryz.prog 146 #[v_b] (fun t122 w_45 => 
 callS Tryz.prog 147 #[t94] (fun t124 w_46 => 
 gd t124 true (fun k w_47 => k v_b w_47) (fun t126_1 w_48 => 
 gd t124 true (fun k_1 w_49 => pur Tryz.prog (nilV t126_1) fun t127 => k_1 t127 w_49) (fun t127_1 w_50 => 
 gd t124 true (fun k_2 w_51 => pur Tryz.prog (Instr.fieldAt 51 t127_1 0) fun t128 => k_2 t128 w_51) (fun t128_1 w_52 => 
 gd t124 true (fun k_3 w_53 => rd Tryz.prog (Instr.loadAt 35 t128_1) (fun t129 => k_3 t129 w_53) w_53) (fun t129_1 w_54 => 
 gd t124 true (fun k_4 w_55 => callS Tryz.prog 147 #[t129_1] (fun t130 w_56 => k_4 t130 w_56) w_55) (fun t130_1 w_57 => 
 pur Tryz.prog (pickS t124 t130_1 (.bool false)) fun t131 => 
 gd t131 true (fun k_5 w_58 => k_5 t96 w_58) (fun t133_1 w_59 => 
 gd t131 true (fun k_6 w_60 => callS Tryz.prog 148 #[t133_1] (fun t134 w_61 => k_6 t134 w_61) w_60) (fun t134_1 w_62 => 
 pur Tryz.prog (pickS t131 t134_1 (.bool false)) fun t135 => 
 gd t135 true (fun k_7 w_63 => k_7 v_b w_63) (fun t137_1 w_64 => 
 gd t135 true (fun k_8 w_65 => pur Tryz.prog (nilV t137_1) fun t138 => k_8 t138 w_65) (fun t138_1 w_66 => 
 gd t135 true (fun k_9 w_67 => pur Tryz.prog (Instr.fieldAt 51 t138_1 2) fun t139 => k_9 t139 w_67) (fun t139_1 w_68 => 
 gd t135 true (fun k_10 w_69 => rd Tryz.prog (Instr.loadAt 36 t139_1) (fun t140 => k_10 t140 w_69) w_69) (fun t140_1 w_70 => 
 gd t135 true (fun k_11 w_71 => callS Tryz.prog 148 #[t140_1] (fun t141 w_72 => k_11 t141 w_72) w_71) (fun t141_1 w_73 => 
 pur Tryz.prog (pickS t135 t141_1 (.bool false)) fun t142 => 
 gd t142 true (fun k_12 w_74 => k_12 t98 w_74) (fun t144_1 w_75 => 
 gd t142 true (fun k_13 w_76 => callS Tryz.prog 149 #[t144_1] (fun t145 w_77 => k_13 t145 w_77) w_76) (fun t145_1 w_78 => 
 pur Tryz.prog (pickS t142 t145_1 (.bool false)) fun t146 => 
 gd t146 true (fun k_14 w_79 => k_14 v_b w_79) (fun t148_1 w_80 => 
 gd t146 true (fun k_15 w_81 => pur Tryz.prog (nilV t148_1) fun t149 => k_15 t149 w_81) (fun t149_1 w_82 => 
 gd t146 true (fun k_16 w_83 => pur Tryz.prog (Instr.fieldAt 51 t149_1 4) fun t150 => k_16 t150 w_83) (fun t150_1 w_84 => 
 gd t146 true (fun k_17 w_85 => rd Tryz.prog (Instr.loadAt 37 t150_1) (fun t151 => k_17 t151 w_85) w_85) (fun t151_1 w_86 => 
 gd t146 true (fun k_18 w_87 => callS Tryz.prog 149 #[t151_1] (fun t152 w_88 => k_18 t152 w_88) w_87) (fun t152_1 w_89 => 
 pur Tryz.prog (pickS t146 t152_1 (.bool false)) fun t153 => 
 gd t153 true (fun k_19 w_90 => k_19 t100 w_90) (fun t155_1 w_91 => 
 gd t153 true (fun k_20 w_92 => callS Tryz.prog 150 #[t155_1] (fun t156 w_93 => k_20 t156 w_93) w_92) (fun t156_1 w_94 => 
 pur Tryz.prog (pickS t153 t156_1 (.bool false)) fun t157 => 
 gd t157 true (fun k_21 w_95 => k_21 v_b w_95) (fun t159_1 w_96 => 
 gd t157 true (fun k_22 w_97 => pur Tryz.prog (nilV t159_1) fun t160 => k_22 t160 w_97) (fun t160_1 w_98 => 
 gd t157 true (fun k_23 w_99 => pur Tryz.prog (Instr.fieldAt 51 t160_1 6) fun t161 => k_23 t161 w_99) (fun t161_1 w_100 => 
 gd t157 true (fun k_24 w_101 => rd Tryz.prog (Instr.loadAt 38 t161_1) (fun t162 => k_24 t162 w_101) w_101) (fun t162_1 w_102 => 
 gd t157 true (fun k_25 w_103 => callS Tryz.prog 150 #[t162_1] (fun t163 w_104 => k_25 t163 w_104) w_103) (fun t163_1 w_105 => 
 pur Tryz.prog (pickS t157 t163_1 (.bool false)) fun t164 => 
 gd t164 true (fun k_26 w_106 => k_26 t102 w_106) (fun t166_1 w_107 => 
 gd t164 true (fun k_27 w_108 => callS Tryz.prog 151 #[t166_1] (fun t167 w_109 => k_27 t167 w_109) w_108) (fun t167_1 w_110 => 
 pur Tryz.prog (pickS t164 t167_1 (.bool false)) fun t168 => 
 gd t168 true (fun k_28 w_111 => k_28 v_b w_111) (fun t170_1 w_112 => 
 gd t168 true (fun k_29 w_113 => pur Tryz.prog (nilV t170_1) fun t171 => k_29 t171 w_113) (fun t171_1 w_114 => 
 gd t168 true (fun k_30 w_115 => pur Tryz.prog (Instr.fieldAt 51 t171_1 8) fun t172 => k_30 t172 w_115) (fun t172_1 w_116 => 
 gd t168 true (fun k_31 w_117 => rd Tryz.prog (Instr.loadAt 39 t172_1) (fun t173 => k_31 t173 w_117) w_117) (fun t173_1 w_118 => 
 gd t168 true (fun k_32 w_119 => callS Tryz.prog 151 #[t173_1] (fun t174 w_120 => k_32 t174 w_120) w_119) (fun t174_1 w_121 => 
 pur Tryz.prog (pickS t168 t174_1 (.bool false)) fun t175 => 
 gd t175 true (fun k_33 w_122 => k_33 t104 w_122) (fun t177_1 w_123 => 
 gd t175 true (fun k_34 w_124 => callS Tryz.prog 152 #[t177_1] (fun t178 w_125 => k_34 t178 w_125) w_124) (fun t178_1 w_126 => 
 pur Tryz.prog (pickS t175 t178_1 (.bool false)) fun t179 => 
 gd t179 true (fun k_35 w_127 => k_35 v_b w_127) (fun t181_1 w_128 => 
 gd t179 true (fun k_36 w_129 => pur Tryz.prog (nilV t181_1) fun t182 => k_36 t182 w_129) (fun t182_1 w_130 => 
 gd t179 true (fun k_37 w_131 => pur Tryz.prog (Instr.fieldAt 51 t182_1 10) fun t183 => k_37 t183 w_131) (fun t183_1 w_132 => 
 gd t179 true (fun k_38 w_133 => rd Tryz.prog (Instr.loadAt 40 t183_1) (fun t184 => k_38 t184 w_133) w_133) (fun t184_1 w_134 => 
 gd t179 true (fun k_39 w_135 => callS Tryz.prog 152 #[t184_1] (fun t185 w_136 => k_39 t185 w_136) w_135) (fun t185_1 w_137 => 
 pur Tryz.prog (pickS t179 t185_1 (.bool false)) fun t186 => 
 gd t186 true (fun k_40 w_138 => k_40 t106 w_138) (fun t188_1 w_139 => 
 gd t186 true (fun k_41 w_140 => callS Tryz.prog 153 #[t188_1] (fun t189 w_141 => k_41 t189 w_141) w_140) (fun t189_1 w_142 => 
 pur Tryz.prog (pickS t186 t189_1 (.bool false)) fun t190 => 
 gd t190 true (fun k_42 w_143 => k_42 v_b w_143) (fun t192_1 w_144 => 
 gd t190 true (fun k_43 w_145 => pur Tryz.prog (nilV t192_1) fun t193 => k_43 t193 w_145) (fun t193_1 w_146 => 
 gd t190 true (fun k_44 w_147 => pur Tryz.prog (Instr.fieldAt 51 t193_1 12) fun t194 => k_44 t194 w_147) (fun t194_1 w_148 => 
 gd t190 true (fun k_45 w_149 => rd Tryz.prog (Instr.loadAt 41 t194_1) (fun t195 => k_45 t195 w_149) w_149) (fun t195_1 w_150 => 
 gd t190 true (fun k_46 w_151 => callS Tryz.prog 153 #[t195_1] (fun t196 w_152 => k_46 t196 w_152) w_151) (fun t196_1 w_153 => 
 pur Tryz.prog (pickS t190 t196_1 (.bool false)) fun t197 => 
 gd t197 true (fun k_47 w_154 => k_47 t108 w_154) (fun t199_1 w_155 => 
 gd t197 true (fun k_48 w_156 => callS Tryz.prog 154 #[t199_1] (fun t200 w_157 => k_48 t200 w_157) w_156) (fun t200_1 w_158 => 
 pur Tryz.prog (pickS t197 t200_1 (.bool false)) fun t201 => 
 gd t201 true (fun k_49 w_159 => k_49 v_b w_159) (fun t203_1 w_160 => 
 gd t201 true (fun k_50 w_161 => pur Tryz.prog (nilV t203_1) fun t204 => k_50 t204 w_161) (fun t204_1 w_162 => 
 gd t201 true (fun k_51 w_163 => pur Tryz.prog (Instr.fieldAt 51 t204_1 14) fun t205 => k_51 t205 w_163) (fun t205_1 w_164 => 
 gd t201 true (fun k_52 w_165 => rd Tryz.prog (Instr.loadAt 42 t205_1) (fun t206 => k_52 t206 w_165) w_165) (fun t206_1 w_166 => 
 gd t201 true (fun k_53 w_167 => callS Tryz.prog 154 #[t206_1] (fun t207 w_168 => k_53 t207 w_168) w_167) (fun t207_1 w_169 => 
 pur Tryz.prog (pickS t201 t207_1 (.bool false)) fun t208 => 
 gd t208 true (fun k_54 w_170 => k_54 t110 w_170) (fun t210_1 w_171 => 
 gd t208 true (fun k_55 w_172 => callS Tryz.prog 155 #[t210_1] (fun t211 w_173 => k_55 t211 w_173) w_172) (fun t211_1 w_174 => 
 pur Tryz.prog (pickS t208 t211_1 (.bool false)) fun t212 => 
 gd t212 true (fun k_56 w_175 => k_56 v_b w_175) (fun t214_1 w_176 => 
 gd t212 true (fun k_57 w_177 => pur Tryz.prog (nilV t214_1) fun t215 => k_57 t215 w_177) (fun t215_1 w_178 => 
 gd t212 true (fun k_58 w_179 => pur Tryz.prog (Instr.fieldAt 51 t215_1 16) fun t216 => k_58 t216 w_179) (fun t216_1 w_180 => 
 gd t212 true (fun k_59 w_181 => rd Tryz.prog (Instr.loadAt 43 t216_1) (fun t217 => k_59 t217 w_181) w_181) (fun t217_1 w_182 => 
 gd t212 true (fun k_60 w_183 => callS Tryz.prog 155 #[t217_1] (fun t218 w_184 => k_60 t218 w_184) w_183) (fun t218_1 w_185 => 
 pur Tryz.prog (pickS t212 t218_1 (.bool false)) fun t219 => 
 gd t219 true (fun k_61 w_186 => k_61 t112 w_186) (fun t221_1 w_187 => 
 gd t219 true (fun k_62 w_188 => callS Tryz.prog 156 #[t221_1] (fun t222 w_189 => k_62 t222 w_189) w_188) (fun t222_1 w_190 => 
 pur Tryz.prog (pickS t219 t222_1 (.bool false)) fun t223 => 
 gd t223 true (fun k_63 w_191 => k_63 v_b w_191) (fun t225_1 w_192 => 
 gd t223 true (fun k_64 w_193 => pur Tryz.prog (nilV t225_1) fun t226 => k_64 t226 w_193) (fun t226_1 w_194 => 
 gd t223 true (fun k_65 w_195 => pur Tryz.prog (Instr.fieldAt 51 t226_1 18) fun t227 => k_65 t227 w_195) (fun t227_1 w_196 => 
 gd t223 true (fun k_66 w_197 => rd Tryz.prog (Instr.loadAt 44 t227_1) (fun t228 => k_66 t228 w_197) w_197) (fun t228_1 w_198 => 
 gd t223 true (fun k_67 w_199 => callS Tryz.prog 156 #[t228_1] (fun t229 w_200 => k_67 t229 w_200) w_199) (fun t229_1 w_201 => 
 pur Tryz.prog (pickS t223 t229_1 (.bool false)) fun t230 => 
 gd t230 true (fun k_68 w_202 => k_68 t114 w_202) (fun t232_1 w_203 => 
 gd t230 true (fun k_69 w_204 => callS Tryz.prog 157 #[t232_1] (fun t233 w_205 => k_69 t233 w_205) w_204) (fun t233_1 w_206 => 
 pur Tryz.prog (pickS t230 t233_1 (.bool false)) fun t234 => 
 gd t234 true (fun k_70 w_207 => k_70 v_b w_207) (fun t236_1 w_208 => 
 gd t234 true (fun k_71 w_209 => pur Tryz.prog (nilV t236_1) fun t237 => k_71 t237 w_209) (fun t237_1 w_210 => 
 gd t234 true (fun k_72 w_211 => pur Tryz.prog (Instr.fieldAt 51 t237_1 20) fun t238 => k_72 t238 w_211) (fun t238_1 w_212 => 
 gd t234 true (fun k_73 w_213 => rd Tryz.prog (Instr.loadAt 45 t238_1) (fun t239 => k_73 t239 w_213) w_213) (fun t239_1 w_214 => 
 gd t234 true (fun k_74 w_215 => callS Tryz.prog 157 #[t239_1] (fun t240 w_216 => k_74 t240 w_216) w_215) (fun t240_1 w_217 => 
 pur Tryz.prog (pickS t234 t240_1 (.bool false)) fun t241 => 
 gd t241 true (fun k_75 w_218 => k_75 t116 w_218) (fun t243_1 w_219 => 
 gd t241 true (fun k_76 w_220 => callS Tryz.prog 158 #[t243_1] (fun t244 w_221 => k_76 t244 w_221) w_220) (fun t244_1 w_222 => 
 pur Tryz.prog (pickS t241 t244_1 (.bool false)) fun t245 => 
 gd t245 true (fun k_77 w_223 => k_77 v_b w_223) (fun t247_1 w_224 => 
 gd t245 true (fun k_78 w_225 => pur Tryz.prog (nilV t247_1) fun t248 => k_78 t248 w_225) (fun t248_1 w_226 => 
 gd t245 true (fun k_79 w_227 => pur Tryz.prog (Instr.fieldAt 51 t248_1 22) fun t249 => k_79 t249 w_227) (fun t249_1 w_228 => 
 gd t245 true (fun k_80 w_229 => rd Tryz.prog (Instr.loadAt 46 t249_1) (fun t250 => k_80 t250 w_229) w_229) (fun t250_1 w_230 => 
 gd t245 true (fun k_81 w_231 => callS Tryz.prog 158 #[t250_1] (fun t251 w_232 => k_81 t251 w_232) w_231) (fun t251_1 w_233 => 
 pur Tryz.prog (pickS t245 t251_1 (.bool false)) fun t252 => 
 gd t252 true (fun k_82 w_234 => k_82 t118 w_234) (fun t254_1 w_235 => 
 gd t252 true (fun k_83 w_236 => callS Tryz.prog 159 #[t254_1] (fun t255 w_237 => k_83 t255 w_237) w_236) (fun t255_1 w_238 => 
 pur Tryz.prog (pickS t252 t255_1 (.bool false)) fun t256 => 
 gd t256 true (fun k_84 w_239 => k_84 v_b w_239) (fun t258_1 w_240 => 
 gd t256 true (fun k_85 w_241 => pur Tryz.prog (nilV t258_1) fun t259 => k_85 t259 w_241) (fun t259_1 w_242 => 
 gd t256 true (fun k_86 w_243 => pur Tryz.prog (Instr.fieldAt 51 t259_1 24) fun t260 => k_86 t260 w_243) (fun t260_1 w_244 => 
 gd t256 true (fun k_87 w_245 => rd Tryz.prog (Instr.loadAt 47 t260_1) (fun t261 => k_87 t261 w_245) w_245) (fun t261_1 w_246 => 
 gd t256 true (fun k_88 w_247 => callS Tryz.prog 159 #[t261_1] (fun t262 w_248 => k_88 t262 w_248) w_247) (fun t262_1 w_249 => 
 pur Tryz.prog (pickS t256 t262_1 (.bool false)) fun t263 => 
 gd t263 true (fun k_89 w_250 => k_89 t120 w_250) (fun t265_1 w_251 => 
 gd t263 true (fun k_90 w_252 => callS Tryz.prog 160 #[t265_1] (fun t266 w_253 => k_90 t266 w_253) w_252) (fun t266_1 w_254 => 
 pur Tryz.prog (pickS t263 t266_1 (.bool false)) fun t267 => 
 gd t267 true (fun k_91 w_255 => k_91 v_b w_255) (fun t269_1 w_256 => 
 gd t267 true (fun k_92 w_257 => pur Tryz.prog (nilV t269_1) fun t270 => k_92 t270 w_257) (fun t270_1 w_258 => 
 gd t267 true (fun k_93 w_259 => pur Tryz.prog (Instr.fieldAt 51 t270_1 26) fun t271 => k_93 t271 w_259) (fun t271_1 w_260 => 
 gd t267 true (fun k_94 w_261 => rd Tryz.prog (Instr.loadAt 48 t271_1) (fun t272 => k_94 t272 w_261) w_261) (fun t272_1 w_262 => 
 gd t267 true (fun k_95 w_263 => callS Tryz.prog 160 #[t272_1] (fun t273 w_264 => k_95 t273 w_264) w_263) (fun t273_1 w_265 => 
 pur Tryz.prog (pickS t267 t273_1 (.bool false)) fun t274 => 
 gd t274 true (fun k_96 w_266 => k_96 t122 w_266) (fun t276_1 w_267 => 
 gd t274 true (fun k_97 w_268 => callS Tryz.prog 161 #[t276_1] (fun t277 w_269 => k_97 t277 w_269) w_268) (fun t277_1 w_270 => 
 pur Tryz.prog (pickS t274 t277_1 (.bool false)) fun t278 => 
 gd t278 true (fun k_98 w_271 => k_98 v_b w_271) (fun t280_1 w_272 => 
 gd t278 true (fun k_99 w_273 => pur Tryz.prog (nilV t280_1) fun t281 => k_99 t281 w_273) (fun t281_1 w_274 => 
 gd t278 true (fun k_100 w_275 => pur Tryz.prog (Instr.fieldAt 51 t281_1 28) fun t282 => k_100 t282 w_275) (fun t282_1 w_276 => 
 gd t278 true (fun k_101 w_277 => rd Tryz.prog (Instr.loadAt 49 t282_1) (fun t283 => k_101 t283 w_277) w_277) (fun t283_1 w_278 => 
 gd t278 true (fun k_102 w_279 => callS Tryz.prog 161 #[t283_1] (fun t284 w_280 => k_102 t284 w_280) w_279) (fun t284_1 w_281 => 
 pur Tryz.prog (pickS t278 t284_1 (.bool false)) fun t285 => 
 Q t285 w_281) w_278) w_276) w_274) w_272) w_270) w_267) w_265) w_262) w_260) w_258) w_256) w_254) w_251) w_249) w_246) w_244) w_242) w_240) w_238) w_235) w_233) w_230) w_228) w_226) w_224) w_222) w_219) w_217) w_214) w_212) w_210) w_208) w_206) w_203) w_201) w_198) w_196) w_194) w_192) w_190) w_187) w_185) w_182) w_180) w_178) w_176) w_174) w_171) w_169) w_166) w_164) w_162) w_160) w_158) w_155) w_153) w_150) w_148) w_146) w_144) w_142) w_139) w_137) w_134) w_132) w_130) w_128) w_126) w_123) w_121) w_118) w_116) w_114) w_112) w_110) w_107) w_105) w_102) w_100) w_98) w_96) w_94) w_91) w_89) w_86) w_84) w_82) w_80) w_78) w_75) w_73) w_70) w_68) w_66) w_64) w_62) w_59) w_57) w_54) w_52) w_50) w_48) w_46) w_45) w_44) w_43) w_42) w_41) w_40) w_39) w_38) w_37) w_36) w_35) w_34) w_33) w_32) w_31) w_30) w_29) w_28) w_27) w_26) w_25) w_24) w_23) w_22) w_21) w_20) w_19) w_18) w_17) w_16) w_15)) w_14)) w_13)) w_12)) w_11)) w_10)) w_9)) w_8)) w_7)) w_6)) w_5)) w_4)) w_3)) w_2)) w_1)) w
theorem eq22 (v_b : Value) (Q : Value → World → Prop) (w : World) : semF Tryz.prog 22 [v_b] Q w = S22 v_b Q w := by kernel_rfl
theorem ref22 {v_b : Value} {Q : Value → World → Prop} {w : World} (h : S22 v_b Q w) : callS Tryz.prog 22 #[v_b] Q w :=
  callS_of mix (fun a w => Tryz.call22 a w) (by kernel_rfl) (by rw [eq22]; exact h)
-- commons/commonsbook.SameSpans
def S38 (v_a v_b : Value) (Q : Value → World → Prop) (w : World) : Prop :=
 pur Tryz.prog (Builtin.len_ #[70] 3 #[v_a]) fun t7 => 
 pur Tryz.prog (Builtin.len_ #[70] 3 #[v_b]) fun t9 => 
 pur Tryz.prog (binS .neq 3 false false t7 t9) fun t10 => 
 condS t10
  (Q (.bool false) w)
  (lp 1 (fun J => fun v_i w_1 => ∀ _j : Fr, 
  pur Tryz.prog (Builtin.len_ #[70] 3 #[v_a]) fun t13 => 
  pur Tryz.prog (binS .lss 3 false false v_i t13) fun t14 => 
  condS t14
   (pur Tryz.prog (Instr.indexAt 70 v_a v_i) fun t19 => 
  rd Tryz.prog (Instr.loadAt 72 t19) (fun t20 => 
  pur Tryz.prog (Instr.indexAt 70 v_b v_i) fun t23 => 
  rd Tryz.prog (Instr.loadAt 72 t23) (fun t24 => 
  rd Tryz.prog (binS .eql 72 false false t20 t24) (fun t25 => 
  pur Tryz.prog (Op.unary .not t25) fun t26 => 
  condS t26
   (Q (.bool false) (World.drew w_1))
   (pur Tryz.prog (binS .add 3 false true v_i (.int .i64 1)) fun t16 => 
  J t16 (World.drew w_1))) (World.drew w_1)) (World.drew w_1)) (World.drew w_1))
   (Q (.bool true) w_1)) [(.int .i64 0)] w)
theorem eq38 (v_a v_b : Value) (Q : Value → World → Prop) (w : World) : semF Tryz.prog 38 [v_a, v_b] Q w = S38 v_a v_b Q w := by kernel_rfl
theorem ref38 {v_a v_b : Value} {Q : Value → World → Prop} {w : World} (h : S38 v_a v_b Q w) : callS Tryz.prog 38 #[v_a, v_b] Q w :=
  callS_of mix (fun a w => Tryz.call38 a w) (by kernel_rfl) (by rw [eq38]; exact h)
-- commons/commonsbook.SameLocks
def S69 (v_a v_b : Value) (Q : Value → World → Prop) (w : World) : Prop :=
 pur Tryz.prog (Builtin.len_ #[109] 3 #[v_a]) fun t7 => 
 pur Tryz.prog (Builtin.len_ #[109] 3 #[v_b]) fun t9 => 
 pur Tryz.prog (binS .neq 3 false false t7 t9) fun t10 => 
 condS t10
  (Q (.bool false) w)
  (lp 1 (fun J => fun v_i w_1 => ∀ _j : Fr, 
  pur Tryz.prog (Builtin.len_ #[109] 3 #[v_a]) fun t13 => 
  pur Tryz.prog (binS .lss 3 false false v_i t13) fun t14 => 
  condS t14
   (pur Tryz.prog (Instr.indexAt 109 v_a v_i) fun t19 => 
  rd Tryz.prog (Instr.loadAt 143 t19) (fun t20 => 
  pur Tryz.prog (Instr.indexAt 109 v_b v_i) fun t23 => 
  rd Tryz.prog (Instr.loadAt 143 t23) (fun t24 => 
  rd Tryz.prog (binS .eql 143 false false t20 t24) (fun t25 => 
  pur Tryz.prog (Op.unary .not t25) fun t26 => 
  condS t26
   (Q (.bool false) (World.drew w_1))
   (pur Tryz.prog (binS .add 3 false true v_i (.int .i64 1)) fun t16 => 
  J t16 (World.drew w_1))) (World.drew w_1)) (World.drew w_1)) (World.drew w_1))
   (Q (.bool true) w_1)) [(.int .i64 0)] w)
theorem eq69 (v_a v_b : Value) (Q : Value → World → Prop) (w : World) : semF Tryz.prog 69 [v_a, v_b] Q w = S69 v_a v_b Q w := by kernel_rfl
theorem ref69 {v_a v_b : Value} {Q : Value → World → Prop} {w : World} (h : S69 v_a v_b Q w) : callS Tryz.prog 69 #[v_a, v_b] Q w :=
  callS_of mix (fun a w => Tryz.call69 a w) (by kernel_rfl) (by rw [eq69]; exact h)
-- commons/commonsbook.SameImages
def S93 (v_a v_b : Value) (Q : Value → World → Prop) (w : World) : Prop :=
 pur Tryz.prog (Builtin.len_ #[131] 3 #[v_a]) fun t7 => 
 pur Tryz.prog (Builtin.len_ #[131] 3 #[v_b]) fun t9 => 
 pur Tryz.prog (binS .neq 3 false false t7 t9) fun t10 => 
 condS t10
  (Q (.bool false) w)
  (lp 1 (fun J => fun v_i w_1 => ∀ _j : Fr, 
  pur Tryz.prog (Builtin.len_ #[131] 3 #[v_a]) fun t13 => 
  pur Tryz.prog (binS .lss 3 false false v_i t13) fun t14 => 
  condS t14
   (pur Tryz.prog (Instr.indexAt 131 v_a v_i) fun t19 => 
  rd Tryz.prog (Instr.loadAt 138 t19) (fun t20 => 
  pur Tryz.prog (Instr.indexAt 131 v_b v_i) fun t23 => 
  rd Tryz.prog (Instr.loadAt 138 t23) (fun t24 => 
  rd Tryz.prog (binS .eql 138 false false t20 t24) (fun t25 => 
  pur Tryz.prog (Op.unary .not t25) fun t26 => 
  condS t26
   (Q (.bool false) (World.drew w_1))
   (pur Tryz.prog (binS .add 3 false true v_i (.int .i64 1)) fun t16 => 
  J t16 (World.drew w_1))) (World.drew w_1)) (World.drew w_1)) (World.drew w_1))
   (Q (.bool true) w_1)) [(.int .i64 0)] w)
theorem eq93 (v_a v_b : Value) (Q : Value → World → Prop) (w : World) : semF Tryz.prog 93 [v_a, v_b] Q w = S93 v_a v_b Q w := by kernel_rfl
theorem ref93 {v_a v_b : Value} {Q : Value → World → Prop} {w : World} (h : S93 v_a v_b Q w) : callS Tryz.prog 93 #[v_a, v_b] Q w :=
  callS_of mix (fun a w => Tryz.call93 a w) (by kernel_rfl) (by rw [eq93]; exact h)
-- (*commons/heap.Heap[int]).up
def S95 (v_h v_i : Value) (Q : Value → World → Prop) (w : World) : Prop :=
 lp 1 (fun J => fun v_i_1 w_1 => ∀ _j : Fr, 
  pur Tryz.prog (binS .gtr 3 false true v_i_1 (.int .i64 0)) fun t5 => 
  gd t5 true (fun k w_2 => k v_h w_2) (fun t7_1 w_3 => 
  gd t5 true (fun k_1 w_4 => pur Tryz.prog (nilV t7_1) fun t8 => k_1 t8 w_4) (fun t8_1 w_5 => 
  gd t5 true (fun k_2 w_6 => pur Tryz.prog (Instr.fieldAt 33 t8_1 0) fun t9 => k_2 t9 w_6) (fun t9_1 w_7 => 
  gd t5 true (fun k_3 w_8 => rd Tryz.prog (Instr.loadAt 30 t9_1) (fun t10 => k_3 t10 w_8) w_8) (fun t10_1 w_9 => 
  gd t5 true (fun k_4 w_10 => k_4 v_i_1 w_10) (fun t11_1 w_11 => 
  gd t5 true (fun k_5 w_12 => pur Tryz.prog (Instr.indexAt 30 t10_1 t11_1) fun t12 => k_5 t12 w_12) (fun t12_1 w_13 => 
  gd t5 true (fun k_6 w_14 => rd Tryz.prog (Instr.loadAt 155 t12_1) (fun t13 => k_6 t13 w_14) w_14) (fun t13_1 w_15 => 
  gd t5 true (fun k_7 w_16 => k_7 v_h w_16) (fun t14_1 w_17 => 
  gd t5 true (fun k_8 w_18 => pur Tryz.prog (nilV t14_1) fun t15 => k_8 t15 w_18) (fun t15_1 w_19 => 
  gd t5 true (fun k_9 w_20 => pur Tryz.prog (Instr.fieldAt 33 t15_1 0) fun t16 => k_9 t16 w_20) (fun t16_1 w_21 => 
  gd t5 true (fun k_10 w_22 => rd Tryz.prog (Instr.loadAt 30 t16_1) (fun t17 => k_10 t17 w_22) w_22) (fun t17_1 w_23 => 
  gd t5 true (fun k_11 w_24 => k_11 v_i_1 w_24) (fun t18_1 w_25 => 
  gd t5 true (fun k_12 w_26 => pur Tryz.prog (binS .sub 3 false true t18_1 (.int .i64 1)) fun t19 => k_12 t19 w_26) (fun t19_1 w_27 => 
  gd t5 true (fun k_13 w_28 => pur Tryz.prog (binS .quo 3 false true t19_1 (.int .i64 2)) fun t20 => k_13 t20 w_28) (fun t20_1 w_29 => 
  gd t5 true (fun k_14 w_30 => pur Tryz.prog (Instr.indexAt 30 t17_1 t20_1) fun t21 => k_14 t21 w_30) (fun t21_1 w_31 => 
  gd t5 true (fun k_15 w_32 => rd Tryz.prog (Instr.loadAt 155 t21_1) (fun t22 => k_15 t22 w_32) w_32) (fun t22_1 w_33 => 
  gd t5 true (fun k_16 w_34 => callS Tryz.prog 100 #[t13_1, t22_1] (fun t23 w_35 => k_16 t23 w_35) w_34) (fun t23_1 w_36 => 
  gd t5 true (fun k_17 w_37 => pur Tryz.prog (binS .lss 3 false true t23_1 (.int .i64 0)) fun t24 => k_17 t24 w_37) (fun t24_1 w_38 => 
  pur Tryz.prog (pickS t5 t24_1 (.bool false)) fun t25 => 
  condS t25
   (pur Tryz.prog (binS .sub 3 false true v_i_1 (.int .i64 1)) fun t29 => 
  pur Tryz.prog (binS .quo 3 false true t29 (.int .i64 2)) fun t30 => 
  callS Tryz.prog 96 #[v_h, v_i_1, t30] (fun _ w_39 => 
  pur Tryz.prog (binS .sub 3 false true v_i_1 (.int .i64 1)) fun t33 => 
  pur Tryz.prog (binS .quo 3 false true t33 (.int .i64 2)) fun t34 => 
  J t34 w_39) w_38)
   (Q (.tuple #[]) w_38)) w_36) w_33) w_31) w_29) w_27) w_25) w_23) w_21) w_19) w_17) w_15) w_13) w_11) w_9) w_7) w_5) w_3) (World.drew w_1)) [v_i] w
theorem eq95 (v_h v_i : Value) (Q : Value → World → Prop) (w : World) : semF Tryz.prog 95 [v_h, v_i] Q w = S95 v_h v_i Q w := by kernel_rfl
theorem ref95 {v_h v_i : Value} {Q : Value → World → Prop} {w : World} (h : S95 v_h v_i Q w) : callS Tryz.prog 95 #[v_h, v_i] Q w :=
  callS_of mix (fun a w => Tryz.call95 a w) (by kernel_rfl) (by rw [eq95]; exact h)
-- (*commons/heap.Heap[int]).swap
def S96 (v_h v_i v_j : Value) (Q : Value → World → Prop) (w : World) : Prop :=
 pur Tryz.prog (nilV v_h) fun t7 => 
 pur Tryz.prog (Instr.fieldAt 33 t7 0) fun t8 => 
 rd Tryz.prog (Instr.loadAt 30 t8) (fun t9 => 
 pur Tryz.prog (nilV v_h) fun t12 => 
 pur Tryz.prog (Instr.fieldAt 33 t12 0) fun t13 => 
 rd Tryz.prog (Instr.loadAt 30 t13) (fun t14 => 
 pur Tryz.prog (nilV v_h) fun t17 => 
 pur Tryz.prog (Instr.fieldAt 33 t17 0) fun t18 => 
 rd Tryz.prog (Instr.loadAt 30 t18) (fun t19 => 
 pur Tryz.prog (Instr.indexAt 30 t19 v_j) fun t21 => 
 rd Tryz.prog (Instr.loadAt 155 t21) (fun t22 => 
 pur Tryz.prog (nilV v_h) fun t24 => 
 pur Tryz.prog (Instr.fieldAt 33 t24 0) fun t25 => 
 rd Tryz.prog (Instr.loadAt 30 t25) (fun t26 => 
 pur Tryz.prog (Instr.indexAt 30 t26 v_i) fun t28 => 
 rd Tryz.prog (Instr.loadAt 155 t28) (fun t29 => 
 pur Tryz.prog (Instr.indexAt 30 t9 v_i) fun t30 => 
 act Tryz.prog (thenU (Instr.storeAt 155 t30 t22)) (fun _ w_1 => 
 pur Tryz.prog (Instr.indexAt 30 t14 v_j) fun t31 => 
 act Tryz.prog (thenU (Instr.storeAt 155 t31 t29)) (fun _ w_2 => 
 pur Tryz.prog (nilV v_h) fun t33 => 
 pur Tryz.prog (Instr.fieldAt 33 t33 0) fun t34 => 
 rd Tryz.prog (Instr.loadAt 30 t34) (fun t35 => 
 pur Tryz.prog (Instr.indexAt 30 t35 v_i) fun t37 => 
 rd Tryz.prog (Instr.loadAt 155 t37) (fun t38 => 
 pur Tryz.prog (nilV v_h) fun t40 => 
 pur Tryz.prog (Instr.fieldAt 33 t40 0) fun t41 => 
 rd Tryz.prog (Instr.loadAt 30 t41) (fun t42 => 
 pur Tryz.prog (Instr.indexAt 30 t42 v_j) fun t44 => 
 rd Tryz.prog (Instr.loadAt 155 t44) (fun t45 => 
 pur Tryz.prog (nilV t38) fun t48 => 
 pur Tryz.prog (Instr.fieldAt 157 t48 3) fun t49 => 
 act Tryz.prog (thenU (Instr.storeAt 3 t49 v_i)) (fun _ w_3 => 
 pur Tryz.prog (nilV t45) fun t50 => 
 pur Tryz.prog (Instr.fieldAt 157 t50 3) fun t51 => 
 act Tryz.prog (thenU (Instr.storeAt 3 t51 v_j)) (fun _ w_4 => 
 Q (.tuple #[]) w_4) w_3) (World.drew w_2)) (World.drew w_2)) (World.drew w_2)) (World.drew w_2)) (World.drew w_2)) w_1) (World.drew w)) (World.drew w)) (World.drew w)) (World.drew w)) (World.drew w)) (World.drew w)) (World.drew w)
theorem eq96 (v_h v_i v_j : Value) (Q : Value → World → Prop) (w : World) : semF Tryz.prog 96 [v_h, v_i, v_j] Q w = S96 v_h v_i v_j Q w := by kernel_rfl
theorem ref96 {v_h v_i v_j : Value} {Q : Value → World → Prop} {w : World} (h : S96 v_h v_i v_j Q w) : callS Tryz.prog 96 #[v_h, v_i, v_j] Q w :=
  callS_of mix (fun a w => Tryz.call96 a w) (by kernel_rfl) (by rw [eq96]; exact h)
-- (*commons/heap.Heap[int]).down
def S97 (v_h v_i : Value) (Q : Value → World → Prop) (w : World) : Prop :=
 lp 1 (fun J => fun v_i_1 w_1 => ∀ _j : Fr, 
  pur Tryz.prog (binS .mul 3 true false (.int .i64 2) v_i_1) fun t9 => 
  pur Tryz.prog (binS .add 3 false true t9 (.int .i64 1)) fun t10 => 
  pur Tryz.prog (binS .mul 3 true false (.int .i64 2) v_i_1) fun t12 => 
  pur Tryz.prog (binS .add 3 false true t12 (.int .i64 2)) fun t13 => 
  act Tryz.prog (Instr.buildSlice 64 2 #[(0, t10), (1, t13)]) (fun t14 w_2 => 
  pur Tryz.prog (Builtin.len_ #[64] 3 #[t14]) fun t15 => 
  lp 2 (fun J_1 => fun v_least t16 w_3 => ∀ _j : Fr, 
   pur Tryz.prog (binS .lss 3 false false t16 t15) fun t17 => 
   condS t17
    (jn 1 (fun J_2 => 
    pur Tryz.prog (Instr.indexAt 64 t14 t16) fun t18 => 
    rd Tryz.prog (Instr.loadAt 3 t18) (fun t19 => 
    pur Tryz.prog (nilV v_h) fun t22 => 
    pur Tryz.prog (Instr.fieldAt 33 t22 0) fun t23 => 
    rd Tryz.prog (Instr.loadAt 30 t23) (fun t24 => 
    pur Tryz.prog (Builtin.len_ #[30] 3 #[t24]) fun t25 => 
    pur Tryz.prog (binS .lss 3 false false t19 t25) fun t26 => 
    gd t26 true (fun k w_4 => k v_h w_4) (fun t28_1 w_5 => 
    gd t26 true (fun k_1 w_6 => pur Tryz.prog (nilV t28_1) fun t29 => k_1 t29 w_6) (fun t29_1 w_7 => 
    gd t26 true (fun k_2 w_8 => pur Tryz.prog (Instr.fieldAt 33 t29_1 0) fun t30 => k_2 t30 w_8) (fun t30_1 w_9 => 
    gd t26 true (fun k_3 w_10 => rd Tryz.prog (Instr.loadAt 30 t30_1) (fun t31 => k_3 t31 w_10) w_10) (fun t31_1 w_11 => 
    gd t26 true (fun k_4 w_12 => k_4 t19 w_12) (fun t32_1 w_13 => 
    gd t26 true (fun k_5 w_14 => pur Tryz.prog (Instr.indexAt 30 t31_1 t32_1) fun t33 => k_5 t33 w_14) (fun t33_1 w_15 => 
    gd t26 true (fun k_6 w_16 => rd Tryz.prog (Instr.loadAt 155 t33_1) (fun t34 => k_6 t34 w_16) w_16) (fun t34_1 w_17 => 
    gd t26 true (fun k_7 w_18 => k_7 v_h w_18) (fun t35_1 w_19 => 
    gd t26 true (fun k_8 w_20 => pur Tryz.prog (nilV t35_1) fun t36 => k_8 t36 w_20) (fun t36_1 w_21 => 
    gd t26 true (fun k_9 w_22 => pur Tryz.prog (Instr.fieldAt 33 t36_1 0) fun t37 => k_9 t37 w_22) (fun t37_1 w_23 => 
    gd t26 true (fun k_10 w_24 => rd Tryz.prog (Instr.loadAt 30 t37_1) (fun t38 => k_10 t38 w_24) w_24) (fun t38_1 w_25 => 
    gd t26 true (fun k_11 w_26 => k_11 v_least w_26) (fun t39_1 w_27 => 
    gd t26 true (fun k_12 w_28 => pur Tryz.prog (Instr.indexAt 30 t38_1 t39_1) fun t40 => k_12 t40 w_28) (fun t40_1 w_29 => 
    gd t26 true (fun k_13 w_30 => rd Tryz.prog (Instr.loadAt 155 t40_1) (fun t41 => k_13 t41 w_30) w_30) (fun t41_1 w_31 => 
    gd t26 true (fun k_14 w_32 => callS Tryz.prog 100 #[t34_1, t41_1] (fun t42 w_33 => k_14 t42 w_33) w_32) (fun t42_1 w_34 => 
    gd t26 true (fun k_15 w_35 => pur Tryz.prog (binS .lss 3 false true t42_1 (.int .i64 0)) fun t43 => k_15 t43 w_35) (fun t43_1 w_36 => 
    pur Tryz.prog (pickS t26 t43_1 (.bool false)) fun t44 => 
    condS t44
     (J_2 t19 w_36)
     (J_2 v_least w_36)) w_34) w_31) w_29) w_27) w_25) w_23) w_21) w_19) w_17) w_15) w_13) w_11) w_9) w_7) w_5) (World.drew w_3)) (World.drew w_3)) w_3)
   (fun v_least_1 w_37 => ∀ _j : Fr, 
    pur Tryz.prog (binS .add 3 false true t16 (.int .i64 1)) fun t46 => 
    J_1 v_least_1 t46 w_37))
    (pur Tryz.prog (binS .eql 3 false false v_least v_i_1) fun t49 => 
  condS t49
   (Q (.tuple #[]) w_3)
   (callS Tryz.prog 96 #[v_h, v_i_1, v_least] (fun _ w_38 => 
  J v_least w_38) w_3))) [v_i_1, (.int .i64 0)] w_2) w_1) [v_i] w
theorem eq97 (v_h v_i : Value) (Q : Value → World → Prop) (w : World) : semF Tryz.prog 97 [v_h, v_i] Q w = S97 v_h v_i Q w := by kernel_rfl
theorem ref97 {v_h v_i : Value} {Q : Value → World → Prop} {w : World} (h : S97 v_h v_i Q w) : callS Tryz.prog 97 #[v_h, v_i] Q w :=
  callS_of mix (fun a w => Tryz.call97 a w) (by kernel_rfl) (by rw [eq97]; exact h)
-- slices.SortedFunc[*commons/heap.item[int]]
def S98 (v_seq v_cmp : Value) (Q : Value → World → Prop) (w : World) : Prop :=
 callS Tryz.prog 192 #[v_seq] (fun t7 w_1 => 
 callS Tryz.prog 193 #[t7, v_cmp] (fun _ w_2 => 
 Q t7 w_2) w_1) w
theorem eq98 (v_seq v_cmp : Value) (Q : Value → World → Prop) (w : World) : semF Tryz.prog 98 [v_seq, v_cmp] Q w = S98 v_seq v_cmp Q w := by kernel_rfl
theorem ref98 {v_seq v_cmp : Value} {Q : Value → World → Prop} {w : World} (h : S98 v_seq v_cmp Q w) : callS Tryz.prog 98 #[v_seq, v_cmp] Q w :=
  callS_of mix (fun a w => Tryz.call98 a w) (by kernel_rfl) (by rw [eq98]; exact h)
-- slices.Values[[]*commons/heap.item[int],*commons/heap.item[int]]
def S99 (v_s : Value) (Q : Value → World → Prop) (w : World) : Prop :=
 act Tryz.prog (Instr.box 30 v_s) (fun t1 w_1 => 
 pur Tryz.prog (pure (.func (.func 194) #[] #[t1])) fun t3 => 
 Q t3 w_1) w
theorem eq99 (v_s : Value) (Q : Value → World → Prop) (w : World) : semF Tryz.prog 99 [v_s] Q w = S99 v_s Q w := by kernel_rfl
theorem ref99 {v_s : Value} {Q : Value → World → Prop} {w : World} (h : S99 v_s Q w) : callS Tryz.prog 99 #[v_s] Q w :=
  callS_of mix (fun a w => Tryz.call99 a w) (by kernel_rfl) (by rw [eq99]; exact h)
-- commons/heap.compare[int]
def S100 (v_a v_b : Value) (Q : Value → World → Prop) (w : World) : Prop :=
 ∃ S : World → Prop, S (World.drew w) ∧ 
 pur Tryz.prog (nilV v_a) fun t6 => 
 pur Tryz.prog (Instr.fieldAt 157 t6 0) fun t7 => 
 hld Tryz.prog S (Instr.loadAt 3 t7) fun t8 => 
 pur Tryz.prog (nilV v_b) fun t10 => 
 pur Tryz.prog (Instr.fieldAt 157 t10 0) fun t11 => 
 hld Tryz.prog S (Instr.loadAt 3 t11) fun t12 => 
 callS Tryz.prog 168 #[t8, t12] (fun t13 w_1 => S w_1 ∧ 
 pur Tryz.prog (nilV v_a) fun t15 => 
 pur Tryz.prog (Instr.fieldAt 157 t15 1) fun t16 => 
 hld Tryz.prog S (Instr.loadAt 3 t16) fun t17 => 
 pur Tryz.prog (nilV v_b) fun t19 => 
 pur Tryz.prog (Instr.fieldAt 157 t19 1) fun t20 => 
 hld Tryz.prog S (Instr.loadAt 3 t20) fun t21 => 
 callS Tryz.prog 168 #[t17, t21] (fun t22 w_2 => S w_2 ∧ 
 act Tryz.prog (Instr.buildSlice 64 2 #[(0, t13), (1, t22)]) (fun t23 w_3 => S w_3 ∧ 
 callS Tryz.prog 167 #[t23] (fun t24 w_4 => S w_4 ∧ 
 Q t24 w_4) w_3) w_2) w_1) (World.drew w)
theorem eq100 (v_a v_b : Value) (Q : Value → World → Prop) (w : World) : semF Tryz.prog 100 [v_a, v_b] Q w = S100 v_a v_b Q w := by kernel_rfl
theorem ref100 {v_a v_b : Value} {Q : Value → World → Prop} {w : World} (h : S100 v_a v_b Q w) : callS Tryz.prog 100 #[v_a, v_b] Q w :=
  callS_of mix (fun a w => Tryz.call100 a w) (by kernel_rfl) (by rw [eq100]; exact h)
-- commons/commonsbook.copyInts
def S101 (v_l : Value) (Q : Value → World → Prop) (w : World) : Prop :=
 act Tryz.prog (Builtin.append_ #[64, 64] 64 #[(.slice none 0 0), v_l]) (fun t4 w_1 => 
 Q t4 w_1) w
theorem eq101 (v_l : Value) (Q : Value → World → Prop) (w : World) : semF Tryz.prog 101 [v_l] Q w = S101 v_l Q w := by kernel_rfl
theorem ref101 {v_l : Value} {Q : Value → World → Prop} {w : World} (h : S101 v_l Q w) : callS Tryz.prog 101 #[v_l] Q w :=
  callS_of mix (fun a w => Tryz.call101 a w) (by kernel_rfl) (by rw [eq101]; exact h)
-- (*commons/commonsbook.Book).stillTexts
def S102 (v_b : Value) (Q : Value → World → Prop) (w : World) : Prop :=
 lp 1 (fun J => fun v_i w_1 => ∀ _j : Fr, 
  pur Tryz.prog (nilV v_b) fun t6 => 
  pur Tryz.prog (Instr.fieldAt 51 t6 0) fun t7 => 
  rd Tryz.prog (Instr.loadAt 35 t7) (fun t8 => 
  pur Tryz.prog (Builtin.len_ #[35] 3 #[t8]) fun t9 => 
  pur Tryz.prog (binS .lss 3 false false v_i t9) fun t10 => 
  condS t10
   (pur Tryz.prog (nilV v_b) fun t14 => 
  pur Tryz.prog (Instr.fieldAt 51 t14 0) fun t15 => 
  rd Tryz.prog (Instr.loadAt 35 t15) (fun t16 => 
  pur Tryz.prog (Instr.indexAt 35 t16 v_i) fun t18 => 
  rd Tryz.prog (Instr.loadAt 220 t18) (fun t19 => 
  pur Tryz.prog (nilV v_b) fun t21 => 
  pur Tryz.prog (Instr.fieldAt 51 t21 1) fun t22 => 
  rd Tryz.prog (Instr.loadAt 35 t22) (fun t23 => 
  pur Tryz.prog (Instr.indexAt 35 t23 v_i) fun t25 => 
  rd Tryz.prog (Instr.loadAt 220 t25) (fun t26 => 
  callS Tryz.prog 195 #[t19, t26] (fun t27 w_2 => 
  pur Tryz.prog (Op.unary .not t27) fun t28 => 
  condS t28
   (Q (.bool false) w_2)
   (pur Tryz.prog (binS .add 3 false true v_i (.int .i64 1)) fun t12 => 
  J t12 w_2)) (World.drew w_1)) (World.drew w_1)) (World.drew w_1)) (World.drew w_1)) (World.drew w_1))
   (Q (.bool true) w_1)) w_1) [(.int .i64 0)] w
theorem eq102 (v_b : Value) (Q : Value → World → Prop) (w : World) : semF Tryz.prog 102 [v_b] Q w = S102 v_b Q w := by kernel_rfl
theorem ref102 {v_b : Value} {Q : Value → World → Prop} {w : World} (h : S102 v_b Q w) : callS Tryz.prog 102 #[v_b] Q w :=
  callS_of mix (fun a w => Tryz.call102 a w) (by kernel_rfl) (by rw [eq102]; exact h)
-- (*commons/commonsbook.Book).stillInts
def S103 (v_b : Value) (Q : Value → World → Prop) (w : World) : Prop :=
 lp 1 (fun J => fun v_i w_1 => ∀ _j : Fr, 
  pur Tryz.prog (nilV v_b) fun t6 => 
  pur Tryz.prog (Instr.fieldAt 51 t6 2) fun t7 => 
  rd Tryz.prog (Instr.loadAt 36 t7) (fun t8 => 
  pur Tryz.prog (Builtin.len_ #[36] 3 #[t8]) fun t9 => 
  pur Tryz.prog (binS .lss 3 false false v_i t9) fun t10 => 
  condS t10
   (pur Tryz.prog (nilV v_b) fun t14 => 
  pur Tryz.prog (Instr.fieldAt 51 t14 2) fun t15 => 
  rd Tryz.prog (Instr.loadAt 36 t15) (fun t16 => 
  pur Tryz.prog (Instr.indexAt 36 t16 v_i) fun t18 => 
  rd Tryz.prog (Instr.loadAt 64 t18) (fun t19 => 
  pur Tryz.prog (nilV v_b) fun t21 => 
  pur Tryz.prog (Instr.fieldAt 51 t21 3) fun t22 => 
  rd Tryz.prog (Instr.loadAt 36 t22) (fun t23 => 
  pur Tryz.prog (Instr.indexAt 36 t23 v_i) fun t25 => 
  rd Tryz.prog (Instr.loadAt 64 t25) (fun t26 => 
  callS Tryz.prog 20 #[t19, t26] (fun t27 w_2 => 
  pur Tryz.prog (Op.unary .not t27) fun t28 => 
  condS t28
   (Q (.bool false) w_2)
   (pur Tryz.prog (binS .add 3 false true v_i (.int .i64 1)) fun t12 => 
  J t12 w_2)) (World.drew w_1)) (World.drew w_1)) (World.drew w_1)) (World.drew w_1)) (World.drew w_1))
   (Q (.bool true) w_1)) w_1) [(.int .i64 0)] w
theorem eq103 (v_b : Value) (Q : Value → World → Prop) (w : World) : semF Tryz.prog 103 [v_b] Q w = S103 v_b Q w := by kernel_rfl
theorem ref103 {v_b : Value} {Q : Value → World → Prop} {w : World} (h : S103 v_b Q w) : callS Tryz.prog 103 #[v_b] Q w :=
  callS_of mix (fun a w => Tryz.call103 a w) (by kernel_rfl) (by rw [eq103]; exact h)
-- (*commons/commonsbook.Book).stillNums
def S104 (v_b : Value) (Q : Value → World → Prop) (w : World) : Prop :=
 lp 1 (fun J => fun v_i w_1 => ∀ _j : Fr, 
  pur Tryz.prog (nilV v_b) fun t6 => 
  pur Tryz.prog (Instr.fieldAt 51 t6 4) fun t7 => 
  rd Tryz.prog (Instr.loadAt 37 t7) (fun t8 => 
  pur Tryz.prog (Builtin.len_ #[37] 3 #[t8]) fun t9 => 
  pur Tryz.prog (binS .lss 3 false false v_i t9) fun t10 => 
  condS t10
   (pur Tryz.prog (nilV v_b) fun t14 => 
  pur Tryz.prog (Instr.fieldAt 51 t14 4) fun t15 => 
  rd Tryz.prog (Instr.loadAt 37 t15) (fun t16 => 
  pur Tryz.prog (Instr.indexAt 37 t16 v_i) fun t18 => 
  rd Tryz.prog (Instr.loadAt 222 t18) (fun t19 => 
  pur Tryz.prog (nilV v_b) fun t21 => 
  pur Tryz.prog (Instr.fieldAt 51 t21 5) fun t22 => 
  rd Tryz.prog (Instr.loadAt 37 t22) (fun t23 => 
  pur Tryz.prog (Instr.indexAt 37 t23 v_i) fun t25 => 
  rd Tryz.prog (Instr.loadAt 222 t25) (fun t26 => 
  callS Tryz.prog 196 #[t19, t26] (fun t27 w_2 => 
  pur Tryz.prog (Op.unary .not t27) fun t28 => 
  condS t28
   (Q (.bool false) w_2)
   (pur Tryz.prog (binS .add 3 false true v_i (.int .i64 1)) fun t12 => 
  J t12 w_2)) (World.drew w_1)) (World.drew w_1)) (World.drew w_1)) (World.drew w_1)) (World.drew w_1))
   (Q (.bool true) w_1)) w_1) [(.int .i64 0)] w
theorem eq104 (v_b : Value) (Q : Value → World → Prop) (w : World) : semF Tryz.prog 104 [v_b] Q w = S104 v_b Q w := by kernel_rfl
theorem ref104 {v_b : Value} {Q : Value → World → Prop} {w : World} (h : S104 v_b Q w) : callS Tryz.prog 104 #[v_b] Q w :=
  callS_of mix (fun a w => Tryz.call104 a w) (by kernel_rfl) (by rw [eq104]; exact h)
-- (*commons/commonsbook.Book).stillSpans
def S105 (v_b : Value) (Q : Value → World → Prop) (w : World) : Prop :=
 lp 1 (fun J => fun v_i w_1 => ∀ _j : Fr, 
  pur Tryz.prog (nilV v_b) fun t6 => 
  pur Tryz.prog (Instr.fieldAt 51 t6 6) fun t7 => 
  rd Tryz.prog (Instr.loadAt 38 t7) (fun t8 => 
  pur Tryz.prog (Builtin.len_ #[38] 3 #[t8]) fun t9 => 
  pur Tryz.prog (binS .lss 3 false false v_i t9) fun t10 => 
  condS t10
   (pur Tryz.prog (nilV v_b) fun t14 => 
  pur Tryz.prog (Instr.fieldAt 51 t14 6) fun t15 => 
  rd Tryz.prog (Instr.loadAt 38 t15) (fun t16 => 
  pur Tryz.prog (Instr.indexAt 38 t16 v_i) fun t18 => 
  rd Tryz.prog (Instr.loadAt 70 t18) (fun t19 => 
  pur Tryz.prog (nilV v_b) fun t21 => 
  pur Tryz.prog (Instr.fieldAt 51 t21 7) fun t22 => 
  rd Tryz.prog (Instr.loadAt 38 t22) (fun t23 => 
  pur Tryz.prog (Instr.indexAt 38 t23 v_i) fun t25 => 
  rd Tryz.prog (Instr.loadAt 70 t25) (fun t26 => 
  callS Tryz.prog 38 #[t19, t26] (fun t27 w_2 => 
  pur Tryz.prog (Op.unary .not t27) fun t28 => 
  condS t28
   (Q (.bool false) w_2)
   (pur Tryz.prog (binS .add 3 false true v_i (.int .i64 1)) fun t12 => 
  J t12 w_2)) (World.drew w_1)) (World.drew w_1)) (World.drew w_1)) (World.drew w_1)) (World.drew w_1))
   (Q (.bool true) w_1)) w_1) [(.int .i64 0)] w
theorem eq105 (v_b : Value) (Q : Value → World → Prop) (w : World) : semF Tryz.prog 105 [v_b] Q w = S105 v_b Q w := by kernel_rfl
theorem ref105 {v_b : Value} {Q : Value → World → Prop} {w : World} (h : S105 v_b Q w) : callS Tryz.prog 105 #[v_b] Q w :=
  callS_of mix (fun a w => Tryz.call105 a w) (by kernel_rfl) (by rw [eq105]; exact h)
-- (*commons/commonsbook.Book).stillLocks
def S106 (v_b : Value) (Q : Value → World → Prop) (w : World) : Prop :=
 lp 1 (fun J => fun v_i w_1 => ∀ _j : Fr, 
  pur Tryz.prog (nilV v_b) fun t6 => 
  pur Tryz.prog (Instr.fieldAt 51 t6 8) fun t7 => 
  rd Tryz.prog (Instr.loadAt 39 t7) (fun t8 => 
  pur Tryz.prog (Builtin.len_ #[39] 3 #[t8]) fun t9 => 
  pur Tryz.prog (binS .lss 3 false false v_i t9) fun t10 => 
  condS t10
   (pur Tryz.prog (nilV v_b) fun t14 => 
  pur Tryz.prog (Instr.fieldAt 51 t14 8) fun t15 => 
  rd Tryz.prog (Instr.loadAt 39 t15) (fun t16 => 
  pur Tryz.prog (Instr.indexAt 39 t16 v_i) fun t18 => 
  rd Tryz.prog (Instr.loadAt 109 t18) (fun t19 => 
  pur Tryz.prog (nilV v_b) fun t21 => 
  pur Tryz.prog (Instr.fieldAt 51 t21 9) fun t22 => 
  rd Tryz.prog (Instr.loadAt 39 t22) (fun t23 => 
  pur Tryz.prog (Instr.indexAt 39 t23 v_i) fun t25 => 
  rd Tryz.prog (Instr.loadAt 109 t25) (fun t26 => 
  callS Tryz.prog 69 #[t19, t26] (fun t27 w_2 => 
  pur Tryz.prog (Op.unary .not t27) fun t28 => 
  condS t28
   (Q (.bool false) w_2)
   (pur Tryz.prog (binS .add 3 false true v_i (.int .i64 1)) fun t12 => 
  J t12 w_2)) (World.drew w_1)) (World.drew w_1)) (World.drew w_1)) (World.drew w_1)) (World.drew w_1))
   (Q (.bool true) w_1)) w_1) [(.int .i64 0)] w
theorem eq106 (v_b : Value) (Q : Value → World → Prop) (w : World) : semF Tryz.prog 106 [v_b] Q w = S106 v_b Q w := by kernel_rfl
theorem ref106 {v_b : Value} {Q : Value → World → Prop} {w : World} (h : S106 v_b Q w) : callS Tryz.prog 106 #[v_b] Q w :=
  callS_of mix (fun a w => Tryz.call106 a w) (by kernel_rfl) (by rw [eq106]; exact h)
-- (*commons/commonsbook.Book).stillImages
def S107 (v_b : Value) (Q : Value → World → Prop) (w : World) : Prop :=
 lp 1 (fun J => fun v_i w_1 => ∀ _j : Fr, 
  pur Tryz.prog (nilV v_b) fun t6 => 
  pur Tryz.prog (Instr.fieldAt 51 t6 10) fun t7 => 
  rd Tryz.prog (Instr.loadAt 40 t7) (fun t8 => 
  pur Tryz.prog (Builtin.len_ #[40] 3 #[t8]) fun t9 => 
  pur Tryz.prog (binS .lss 3 false false v_i t9) fun t10 => 
  condS t10
   (pur Tryz.prog (nilV v_b) fun t14 => 
  pur Tryz.prog (Instr.fieldAt 51 t14 10) fun t15 => 
  rd Tryz.prog (Instr.loadAt 40 t15) (fun t16 => 
  pur Tryz.prog (Instr.indexAt 40 t16 v_i) fun t18 => 
  rd Tryz.prog (Instr.loadAt 131 t18) (fun t19 => 
  pur Tryz.prog (nilV v_b) fun t21 => 
  pur Tryz.prog (Instr.fieldAt 51 t21 11) fun t22 => 
  rd Tryz.prog (Instr.loadAt 40 t22) (fun t23 => 
  pur Tryz.prog (Instr.indexAt 40 t23 v_i) fun t25 => 
  rd Tryz.prog (Instr.loadAt 131 t25) (fun t26 => 
  callS Tryz.prog 93 #[t19, t26] (fun t27 w_2 => 
  pur Tryz.prog (Op.unary .not t27) fun t28 => 
  condS t28
   (Q (.bool false) w_2)
   (pur Tryz.prog (binS .add 3 false true v_i (.int .i64 1)) fun t12 => 
  J t12 w_2)) (World.drew w_1)) (World.drew w_1)) (World.drew w_1)) (World.drew w_1)) (World.drew w_1))
   (Q (.bool true) w_1)) w_1) [(.int .i64 0)] w
theorem eq107 (v_b : Value) (Q : Value → World → Prop) (w : World) : semF Tryz.prog 107 [v_b] Q w = S107 v_b Q w := by kernel_rfl
theorem ref107 {v_b : Value} {Q : Value → World → Prop} {w : World} (h : S107 v_b Q w) : callS Tryz.prog 107 #[v_b] Q w :=
  callS_of mix (fun a w => Tryz.call107 a w) (by kernel_rfl) (by rw [eq107]; exact h)
-- (*commons/commonsbook.Book).stillRecords
def S108 (v_b : Value) (Q : Value → World → Prop) (w : World) : Prop :=
 lp 1 (fun J => fun v_i w_1 => ∀ _j : Fr, 
  pur Tryz.prog (nilV v_b) fun t6 => 
  pur Tryz.prog (Instr.fieldAt 51 t6 12) fun t7 => 
  rd Tryz.prog (Instr.loadAt 41 t7) (fun t8 => 
  pur Tryz.prog (Builtin.len_ #[41] 3 #[t8]) fun t9 => 
  pur Tryz.prog (binS .lss 3 false false v_i t9) fun t10 => 
  condS t10
   (pur Tryz.prog (nilV v_b) fun t14 => 
  pur Tryz.prog (Instr.fieldAt 51 t14 12) fun t15 => 
  rd Tryz.prog (Instr.loadAt 41 t15) (fun t16 => 
  pur Tryz.prog (Instr.indexAt 41 t16 v_i) fun t18 => 
  rd Tryz.prog (Instr.loadAt 224 t18) (fun t19 => 
  pur Tryz.prog (nilV v_b) fun t21 => 
  pur Tryz.prog (Instr.fieldAt 51 t21 13) fun t22 => 
  rd Tryz.prog (Instr.loadAt 41 t22) (fun t23 => 
  pur Tryz.prog (Instr.indexAt 41 t23 v_i) fun t25 => 
  rd Tryz.prog (Instr.loadAt 224 t25) (fun t26 => 
  callS Tryz.prog 197 #[t19, t26] (fun t27 w_2 => 
  pur Tryz.prog (Op.unary .not t27) fun t28 => 
  condS t28
   (Q (.bool false) w_2)
   (pur Tryz.prog (binS .add 3 false true v_i (.int .i64 1)) fun t12 => 
  J t12 w_2)) (World.drew w_1)) (World.drew w_1)) (World.drew w_1)) (World.drew w_1)) (World.drew w_1))
   (Q (.bool true) w_1)) w_1) [(.int .i64 0)] w
theorem eq108 (v_b : Value) (Q : Value → World → Prop) (w : World) : semF Tryz.prog 108 [v_b] Q w = S108 v_b Q w := by kernel_rfl
theorem ref108 {v_b : Value} {Q : Value → World → Prop} {w : World} (h : S108 v_b Q w) : callS Tryz.prog 108 #[v_b] Q w :=
  callS_of mix (fun a w => Tryz.call108 a w) (by kernel_rfl) (by rw [eq108]; exact h)
-- (*commons/commonsbook.Book).stillPackets
def S109 (v_b : Value) (Q : Value → World → Prop) (w : World) : Prop :=
 lp 1 (fun J => fun v_i w_1 => ∀ _j : Fr, 
  pur Tryz.prog (nilV v_b) fun t6 => 
  pur Tryz.prog (Instr.fieldAt 51 t6 14) fun t7 => 
  rd Tryz.prog (Instr.loadAt 42 t7) (fun t8 => 
  pur Tryz.prog (Builtin.len_ #[42] 3 #[t8]) fun t9 => 
  pur Tryz.prog (binS .lss 3 false false v_i t9) fun t10 => 
  condS t10
   (pur Tryz.prog (nilV v_b) fun t14 => 
  pur Tryz.prog (Instr.fieldAt 51 t14 14) fun t15 => 
  rd Tryz.prog (Instr.loadAt 42 t15) (fun t16 => 
  pur Tryz.prog (Instr.indexAt 42 t16 v_i) fun t18 => 
  rd Tryz.prog (Instr.loadAt 226 t18) (fun t19 => 
  pur Tryz.prog (nilV v_b) fun t21 => 
  pur Tryz.prog (Instr.fieldAt 51 t21 15) fun t22 => 
  rd Tryz.prog (Instr.loadAt 42 t22) (fun t23 => 
  pur Tryz.prog (Instr.indexAt 42 t23 v_i) fun t25 => 
  rd Tryz.prog (Instr.loadAt 226 t25) (fun t26 => 
  callS Tryz.prog 198 #[t19, t26] (fun t27 w_2 => 
  pur Tryz.prog (Op.unary .not t27) fun t28 => 
  condS t28
   (Q (.bool false) w_2)
   (pur Tryz.prog (binS .add 3 false true v_i (.int .i64 1)) fun t12 => 
  J t12 w_2)) (World.drew w_1)) (World.drew w_1)) (World.drew w_1)) (World.drew w_1)) (World.drew w_1))
   (Q (.bool true) w_1)) w_1) [(.int .i64 0)] w
theorem eq109 (v_b : Value) (Q : Value → World → Prop) (w : World) : semF Tryz.prog 109 [v_b] Q w = S109 v_b Q w := by kernel_rfl
theorem ref109 {v_b : Value} {Q : Value → World → Prop} {w : World} (h : S109 v_b Q w) : callS Tryz.prog 109 #[v_b] Q w :=
  callS_of mix (fun a w => Tryz.call109 a w) (by kernel_rfl) (by rw [eq109]; exact h)
-- (*commons/commonsbook.Book).stillFrames
def S110 (v_b : Value) (Q : Value → World → Prop) (w : World) : Prop :=
 lp 1 (fun J => fun v_i w_1 => ∀ _j : Fr, 
  pur Tryz.prog (nilV v_b) fun t6 => 
  pur Tryz.prog (Instr.fieldAt 51 t6 16) fun t7 => 
  rd Tryz.prog (Instr.loadAt 43 t7) (fun t8 => 
  pur Tryz.prog (Builtin.len_ #[43] 3 #[t8]) fun t9 => 
  pur Tryz.prog (binS .lss 3 false false v_i t9) fun t10 => 
  condS t10
   (pur Tryz.prog (nilV v_b) fun t14 => 
  pur Tryz.prog (Instr.fieldAt 51 t14 16) fun t15 => 
  rd Tryz.prog (Instr.loadAt 43 t15) (fun t16 => 
  pur Tryz.prog (Instr.indexAt 43 t16 v_i) fun t18 => 
  rd Tryz.prog (Instr.loadAt 228 t18) (fun t19 => 
  pur Tryz.prog (nilV v_b) fun t21 => 
  pur Tryz.prog (Instr.fieldAt 51 t21 17) fun t22 => 
  rd Tryz.prog (Instr.loadAt 43 t22) (fun t23 => 
  pur Tryz.prog (Instr.indexAt 43 t23 v_i) fun t25 => 
  rd Tryz.prog (Instr.loadAt 228 t25) (fun t26 => 
  callS Tryz.prog 199 #[t19, t26] (fun t27 w_2 => 
  pur Tryz.prog (Op.unary .not t27) fun t28 => 
  condS t28
   (Q (.bool false) w_2)
   (pur Tryz.prog (binS .add 3 false true v_i (.int .i64 1)) fun t12 => 
  J t12 w_2)) (World.drew w_1)) (World.drew w_1)) (World.drew w_1)) (World.drew w_1)) (World.drew w_1))
   (Q (.bool true) w_1)) w_1) [(.int .i64 0)] w
theorem eq110 (v_b : Value) (Q : Value → World → Prop) (w : World) : semF Tryz.prog 110 [v_b] Q w = S110 v_b Q w := by kernel_rfl
theorem ref110 {v_b : Value} {Q : Value → World → Prop} {w : World} (h : S110 v_b Q w) : callS Tryz.prog 110 #[v_b] Q w :=
  callS_of mix (fun a w => Tryz.call110 a w) (by kernel_rfl) (by rw [eq110]; exact h)
-- (*commons/commonsbook.Book).stillWaits
def S111 (v_b : Value) (Q : Value → World → Prop) (w : World) : Prop :=
 lp 1 (fun J => fun v_i w_1 => ∀ _j : Fr, 
  pur Tryz.prog (nilV v_b) fun t6 => 
  pur Tryz.prog (Instr.fieldAt 51 t6 18) fun t7 => 
  rd Tryz.prog (Instr.loadAt 44 t7) (fun t8 => 
  pur Tryz.prog (Builtin.len_ #[44] 3 #[t8]) fun t9 => 
  pur Tryz.prog (binS .lss 3 false false v_i t9) fun t10 => 
  condS t10
   (pur Tryz.prog (nilV v_b) fun t14 => 
  pur Tryz.prog (Instr.fieldAt 51 t14 18) fun t15 => 
  rd Tryz.prog (Instr.loadAt 44 t15) (fun t16 => 
  pur Tryz.prog (Instr.indexAt 44 t16 v_i) fun t18 => 
  rd Tryz.prog (Instr.loadAt 230 t18) (fun t19 => 
  pur Tryz.prog (nilV v_b) fun t21 => 
  pur Tryz.prog (Instr.fieldAt 51 t21 19) fun t22 => 
  rd Tryz.prog (Instr.loadAt 44 t22) (fun t23 => 
  pur Tryz.prog (Instr.indexAt 44 t23 v_i) fun t25 => 
  rd Tryz.prog (Instr.loadAt 230 t25) (fun t26 => 
  callS Tryz.prog 200 #[t19, t26] (fun t27 w_2 => 
  pur Tryz.prog (Op.unary .not t27) fun t28 => 
  condS t28
   (Q (.bool false) w_2)
   (pur Tryz.prog (binS .add 3 false true v_i (.int .i64 1)) fun t12 => 
  J t12 w_2)) (World.drew w_1)) (World.drew w_1)) (World.drew w_1)) (World.drew w_1)) (World.drew w_1))
   (Q (.bool true) w_1)) w_1) [(.int .i64 0)] w
theorem eq111 (v_b : Value) (Q : Value → World → Prop) (w : World) : semF Tryz.prog 111 [v_b] Q w = S111 v_b Q w := by kernel_rfl
theorem ref111 {v_b : Value} {Q : Value → World → Prop} {w : World} (h : S111 v_b Q w) : callS Tryz.prog 111 #[v_b] Q w :=
  callS_of mix (fun a w => Tryz.call111 a w) (by kernel_rfl) (by rw [eq111]; exact h)
-- (*commons/commonsbook.Book).stillRevokes
def S112 (v_b : Value) (Q : Value → World → Prop) (w : World) : Prop :=
 lp 1 (fun J => fun v_i w_1 => ∀ _j : Fr, 
  pur Tryz.prog (nilV v_b) fun t6 => 
  pur Tryz.prog (Instr.fieldAt 51 t6 20) fun t7 => 
  rd Tryz.prog (Instr.loadAt 45 t7) (fun t8 => 
  pur Tryz.prog (Builtin.len_ #[45] 3 #[t8]) fun t9 => 
  pur Tryz.prog (binS .lss 3 false false v_i t9) fun t10 => 
  condS t10
   (pur Tryz.prog (nilV v_b) fun t14 => 
  pur Tryz.prog (Instr.fieldAt 51 t14 20) fun t15 => 
  rd Tryz.prog (Instr.loadAt 45 t15) (fun t16 => 
  pur Tryz.prog (Instr.indexAt 45 t16 v_i) fun t18 => 
  rd Tryz.prog (Instr.loadAt 232 t18) (fun t19 => 
  pur Tryz.prog (nilV v_b) fun t21 => 
  pur Tryz.prog (Instr.fieldAt 51 t21 21) fun t22 => 
  rd Tryz.prog (Instr.loadAt 45 t22) (fun t23 => 
  pur Tryz.prog (Instr.indexAt 45 t23 v_i) fun t25 => 
  rd Tryz.prog (Instr.loadAt 232 t25) (fun t26 => 
  callS Tryz.prog 201 #[t19, t26] (fun t27 w_2 => 
  pur Tryz.prog (Op.unary .not t27) fun t28 => 
  condS t28
   (Q (.bool false) w_2)
   (pur Tryz.prog (binS .add 3 false true v_i (.int .i64 1)) fun t12 => 
  J t12 w_2)) (World.drew w_1)) (World.drew w_1)) (World.drew w_1)) (World.drew w_1)) (World.drew w_1))
   (Q (.bool true) w_1)) w_1) [(.int .i64 0)] w
theorem eq112 (v_b : Value) (Q : Value → World → Prop) (w : World) : semF Tryz.prog 112 [v_b] Q w = S112 v_b Q w := by kernel_rfl
theorem ref112 {v_b : Value} {Q : Value → World → Prop} {w : World} (h : S112 v_b Q w) : callS Tryz.prog 112 #[v_b] Q w :=
  callS_of mix (fun a w => Tryz.call112 a w) (by kernel_rfl) (by rw [eq112]; exact h)
-- (*commons/commonsbook.Book).stillEntries
def S113 (v_b : Value) (Q : Value → World → Prop) (w : World) : Prop :=
 lp 1 (fun J => fun v_i w_1 => ∀ _j : Fr, 
  pur Tryz.prog (nilV v_b) fun t6 => 
  pur Tryz.prog (Instr.fieldAt 51 t6 22) fun t7 => 
  rd Tryz.prog (Instr.loadAt 46 t7) (fun t8 => 
  pur Tryz.prog (Builtin.len_ #[46] 3 #[t8]) fun t9 => 
  pur Tryz.prog (binS .lss 3 false false v_i t9) fun t10 => 
  condS t10
   (pur Tryz.prog (nilV v_b) fun t14 => 
  pur Tryz.prog (Instr.fieldAt 51 t14 22) fun t15 => 
  rd Tryz.prog (Instr.loadAt 46 t15) (fun t16 => 
  pur Tryz.prog (Instr.indexAt 46 t16 v_i) fun t18 => 
  rd Tryz.prog (Instr.loadAt 234 t18) (fun t19 => 
  pur Tryz.prog (nilV v_b) fun t21 => 
  pur Tryz.prog (Instr.fieldAt 51 t21 23) fun t22 => 
  rd Tryz.prog (Instr.loadAt 46 t22) (fun t23 => 
  pur Tryz.prog (Instr.indexAt 46 t23 v_i) fun t25 => 
  rd Tryz.prog (Instr.loadAt 234 t25) (fun t26 => 
  callS Tryz.prog 202 #[t19, t26] (fun t27 w_2 => 
  pur Tryz.prog (Op.unary .not t27) fun t28 => 
  condS t28
   (Q (.bool false) w_2)
   (pur Tryz.prog (binS .add 3 false true v_i (.int .i64 1)) fun t12 => 
  J t12 w_2)) (World.drew w_1)) (World.drew w_1)) (World.drew w_1)) (World.drew w_1)) (World.drew w_1))
   (Q (.bool true) w_1)) w_1) [(.int .i64 0)] w
theorem eq113 (v_b : Value) (Q : Value → World → Prop) (w : World) : semF Tryz.prog 113 [v_b] Q w = S113 v_b Q w := by kernel_rfl
theorem ref113 {v_b : Value} {Q : Value → World → Prop} {w : World} (h : S113 v_b Q w) : callS Tryz.prog 113 #[v_b] Q w :=
  callS_of mix (fun a w => Tryz.call113 a w) (by kernel_rfl) (by rw [eq113]; exact h)
-- (*commons/commonsbook.Book).stillParts
def S114 (v_b : Value) (Q : Value → World → Prop) (w : World) : Prop :=
 lp 1 (fun J => fun v_i w_1 => ∀ _j : Fr, 
  pur Tryz.prog (nilV v_b) fun t6 => 
  pur Tryz.prog (Instr.fieldAt 51 t6 24) fun t7 => 
  rd Tryz.prog (Instr.loadAt 47 t7) (fun t8 => 
  pur Tryz.prog (Builtin.len_ #[47] 3 #[t8]) fun t9 => 
  pur Tryz.prog (binS .lss 3 false false v_i t9) fun t10 => 
  condS t10
   (pur Tryz.prog (nilV v_b) fun t14 => 
  pur Tryz.prog (Instr.fieldAt 51 t14 24) fun t15 => 
  rd Tryz.prog (Instr.loadAt 47 t15) (fun t16 => 
  pur Tryz.prog (Instr.indexAt 47 t16 v_i) fun t18 => 
  rd Tryz.prog (Instr.loadAt 93 t18) (fun t19 => 
  pur Tryz.prog (nilV v_b) fun t21 => 
  pur Tryz.prog (Instr.fieldAt 51 t21 25) fun t22 => 
  rd Tryz.prog (Instr.loadAt 47 t22) (fun t23 => 
  pur Tryz.prog (Instr.indexAt 47 t23 v_i) fun t25 => 
  rd Tryz.prog (Instr.loadAt 93 t25) (fun t26 => 
  callS Tryz.prog 203 #[t19, t26] (fun t27 w_2 => 
  pur Tryz.prog (Op.unary .not t27) fun t28 => 
  condS t28
   (Q (.bool false) w_2)
   (pur Tryz.prog (binS .add 3 false true v_i (.int .i64 1)) fun t12 => 
  J t12 w_2)) (World.drew w_1)) (World.drew w_1)) (World.drew w_1)) (World.drew w_1)) (World.drew w_1))
   (Q (.bool true) w_1)) w_1) [(.int .i64 0)] w
theorem eq114 (v_b : Value) (Q : Value → World → Prop) (w : World) : semF Tryz.prog 114 [v_b] Q w = S114 v_b Q w := by kernel_rfl
theorem ref114 {v_b : Value} {Q : Value → World → Prop} {w : World} (h : S114 v_b Q w) : callS Tryz.prog 114 #[v_b] Q w :=
  callS_of mix (fun a w => Tryz.call114 a w) (by kernel_rfl) (by rw [eq114]; exact h)
-- (*commons/commonsbook.Book).stillMsgs
def S115 (v_b : Value) (Q : Value → World → Prop) (w : World) : Prop :=
 lp 1 (fun J => fun v_i w_1 => ∀ _j : Fr, 
  pur Tryz.prog (nilV v_b) fun t6 => 
  pur Tryz.prog (Instr.fieldAt 51 t6 26) fun t7 => 
  rd Tryz.prog (Instr.loadAt 48 t7) (fun t8 => 
  pur Tryz.prog (Builtin.len_ #[48] 3 #[t8]) fun t9 => 
  pur Tryz.prog (binS .lss 3 false false v_i t9) fun t10 => 
  condS t10
   (pur Tryz.prog (nilV v_b) fun t14 => 
  pur Tryz.prog (Instr.fieldAt 51 t14 26) fun t15 => 
  rd Tryz.prog (Instr.loadAt 48 t15) (fun t16 => 
  pur Tryz.prog (Instr.indexAt 48 t16 v_i) fun t18 => 
  rd Tryz.prog (Instr.loadAt 237 t18) (fun t19 => 
  pur Tryz.prog (nilV v_b) fun t21 => 
  pur Tryz.prog (Instr.fieldAt 51 t21 27) fun t22 => 
  rd Tryz.prog (Instr.loadAt 48 t22) (fun t23 => 
  pur Tryz.prog (Instr.indexAt 48 t23 v_i) fun t25 => 
  rd Tryz.prog (Instr.loadAt 237 t25) (fun t26 => 
  callS Tryz.prog 204 #[t19, t26] (fun t27 w_2 => 
  pur Tryz.prog (Op.unary .not t27) fun t28 => 
  condS t28
   (Q (.bool false) w_2)
   (pur Tryz.prog (binS .add 3 false true v_i (.int .i64 1)) fun t12 => 
  J t12 w_2)) (World.drew w_1)) (World.drew w_1)) (World.drew w_1)) (World.drew w_1)) (World.drew w_1))
   (Q (.bool true) w_1)) w_1) [(.int .i64 0)] w
theorem eq115 (v_b : Value) (Q : Value → World → Prop) (w : World) : semF Tryz.prog 115 [v_b] Q w = S115 v_b Q w := by kernel_rfl
theorem ref115 {v_b : Value} {Q : Value → World → Prop} {w : World} (h : S115 v_b Q w) : callS Tryz.prog 115 #[v_b] Q w :=
  callS_of mix (fun a w => Tryz.call115 a w) (by kernel_rfl) (by rw [eq115]; exact h)
-- (*commons/commonsbook.Book).stillSteps
def S116 (v_b : Value) (Q : Value → World → Prop) (w : World) : Prop :=
 lp 1 (fun J => fun v_i w_1 => ∀ _j : Fr, 
  pur Tryz.prog (nilV v_b) fun t6 => 
  pur Tryz.prog (Instr.fieldAt 51 t6 28) fun t7 => 
  rd Tryz.prog (Instr.loadAt 49 t7) (fun t8 => 
  pur Tryz.prog (Builtin.len_ #[49] 3 #[t8]) fun t9 => 
  pur Tryz.prog (binS .lss 3 false false v_i t9) fun t10 => 
  condS t10
   (pur Tryz.prog (nilV v_b) fun t14 => 
  pur Tryz.prog (Instr.fieldAt 51 t14 28) fun t15 => 
  rd Tryz.prog (Instr.loadAt 49 t15) (fun t16 => 
  pur Tryz.prog (Instr.indexAt 49 t16 v_i) fun t18 => 
  rd Tryz.prog (Instr.loadAt 239 t18) (fun t19 => 
  pur Tryz.prog (nilV v_b) fun t21 => 
  pur Tryz.prog (Instr.fieldAt 51 t21 29) fun t22 => 
  rd Tryz.prog (Instr.loadAt 49 t22) (fun t23 => 
  pur Tryz.prog (Instr.indexAt 49 t23 v_i) fun t25 => 
  rd Tryz.prog (Instr.loadAt 239 t25) (fun t26 => 
  callS Tryz.prog 205 #[t19, t26] (fun t27 w_2 => 
  pur Tryz.prog (Op.unary .not t27) fun t28 => 
  condS t28
   (Q (.bool false) w_2)
   (pur Tryz.prog (binS .add 3 false true v_i (.int .i64 1)) fun t12 => 
  J t12 w_2)) (World.drew w_1)) (World.drew w_1)) (World.drew w_1)) (World.drew w_1)) (World.drew w_1))
   (Q (.bool true) w_1)) w_1) [(.int .i64 0)] w
theorem eq116 (v_b : Value) (Q : Value → World → Prop) (w : World) : semF Tryz.prog 116 [v_b] Q w = S116 v_b Q w := by kernel_rfl
theorem ref116 {v_b : Value} {Q : Value → World → Prop} {w : World} (h : S116 v_b Q w) : callS Tryz.prog 116 #[v_b] Q w :=
  callS_of mix (fun a w => Tryz.call116 a w) (by kernel_rfl) (by rw [eq116]; exact h)
-- (*commons/commonsbook.Book).putRecords
def S117 (v_b : Value) (Q : Value → World → Prop) (w : World) : Prop :=
 lp 1 (fun J => fun v_i w_1 => ∀ _j : Fr, 
  pur Tryz.prog (nilV v_b) fun t7 => 
  pur Tryz.prog (Instr.fieldAt 51 t7 12) fun t8 => 
  rd Tryz.prog (Instr.loadAt 41 t8) (fun t9 => 
  pur Tryz.prog (Builtin.len_ #[41] 3 #[t9]) fun t10 => 
  pur Tryz.prog (binS .lss 3 false false v_i t10) fun t11 => 
  condS t11
   (pur Tryz.prog (nilV v_b) fun t16 => 
  pur Tryz.prog (Instr.fieldAt 51 t16 12) fun t17 => 
  rd Tryz.prog (Instr.loadAt 41 t17) (fun t18 => 
  pur Tryz.prog (Instr.indexAt 41 t18 v_i) fun t20 => 
  rd Tryz.prog (Instr.loadAt 224 t20) (fun t21 => 
  pur Tryz.prog (Builtin.len_ #[224] 3 #[t21]) fun t22 => 
  callS Tryz.prog 206 #[v_i, (.int .i64 0), t22] (fun t23 w_2 => 
  lp 1 (fun J_1 => fun v_k w_3 => ∀ _j : Fr, 
   pur Tryz.prog (Builtin.len_ #[224] 3 #[t23]) fun t26 => 
   pur Tryz.prog (binS .lss 3 false false v_k t26) fun t27 => 
   condS t27
    (pur Tryz.prog (nilV v_b) fun t31 => 
   pur Tryz.prog (Instr.fieldAt 51 t31 12) fun t32 => 
   rd Tryz.prog (Instr.loadAt 41 t32) (fun t33 => 
   pur Tryz.prog (Instr.indexAt 41 t33 v_i) fun t35 => 
   rd Tryz.prog (Instr.loadAt 224 t35) (fun t36 => 
   pur Tryz.prog (Instr.indexAt 224 t23 v_k) fun t40 => 
   rd Tryz.prog (Instr.loadAt 242 t40) (fun t41 => 
   pur Tryz.prog (Instr.indexAt 224 t36 v_k) fun t42 => 
   act Tryz.prog (thenU (Instr.storeAt 242 t42 t41)) (fun _ w_4 => 
   pur Tryz.prog (binS .add 3 false true v_k (.int .i64 1)) fun t29 => 
   J_1 t29 w_4) (World.drew w_3)) (World.drew w_3)) (World.drew w_3)) (World.drew w_3))
    (pur Tryz.prog (binS .add 3 false true v_i (.int .i64 1)) fun t13 => 
  J t13 w_3)) [(.int .i64 0)] w_2) w_1) w_1) w_1)
   (Q (.tuple #[]) w_1)) w_1) [(.int .i64 0)] w
theorem eq117 (v_b : Value) (Q : Value → World → Prop) (w : World) : semF Tryz.prog 117 [v_b] Q w = S117 v_b Q w := by kernel_rfl
theorem ref117 {v_b : Value} {Q : Value → World → Prop} {w : World} (h : S117 v_b Q w) : callS Tryz.prog 117 #[v_b] Q w :=
  callS_of mix (fun a w => Tryz.call117 a w) (by kernel_rfl) (by rw [eq117]; exact h)
-- (*commons/commonsbook.Book).putMsgs
def S118 (v_b : Value) (Q : Value → World → Prop) (w : World) : Prop :=
 lp 1 (fun J => fun v_i w_1 => ∀ _j : Fr, 
  pur Tryz.prog (nilV v_b) fun t7 => 
  pur Tryz.prog (Instr.fieldAt 51 t7 26) fun t8 => 
  rd Tryz.prog (Instr.loadAt 48 t8) (fun t9 => 
  pur Tryz.prog (Builtin.len_ #[48] 3 #[t9]) fun t10 => 
  pur Tryz.prog (binS .lss 3 false false v_i t10) fun t11 => 
  condS t11
   (pur Tryz.prog (nilV v_b) fun t16 => 
  pur Tryz.prog (Instr.fieldAt 51 t16 26) fun t17 => 
  rd Tryz.prog (Instr.loadAt 48 t17) (fun t18 => 
  pur Tryz.prog (Instr.indexAt 48 t18 v_i) fun t20 => 
  rd Tryz.prog (Instr.loadAt 237 t20) (fun t21 => 
  pur Tryz.prog (Builtin.len_ #[237] 3 #[t21]) fun t22 => 
  callS Tryz.prog 207 #[v_i, (.int .i64 0), t22] (fun t23 w_2 => 
  lp 1 (fun J_1 => fun v_k w_3 => ∀ _j : Fr, 
   pur Tryz.prog (Builtin.len_ #[237] 3 #[t23]) fun t26 => 
   pur Tryz.prog (binS .lss 3 false false v_k t26) fun t27 => 
   condS t27
    (pur Tryz.prog (nilV v_b) fun t31 => 
   pur Tryz.prog (Instr.fieldAt 51 t31 26) fun t32 => 
   rd Tryz.prog (Instr.loadAt 48 t32) (fun t33 => 
   pur Tryz.prog (Instr.indexAt 48 t33 v_i) fun t35 => 
   rd Tryz.prog (Instr.loadAt 237 t35) (fun t36 => 
   pur Tryz.prog (Instr.indexAt 237 t23 v_k) fun t40 => 
   rd Tryz.prog (Instr.loadAt 245 t40) (fun t41 => 
   pur Tryz.prog (Instr.indexAt 237 t36 v_k) fun t42 => 
   act Tryz.prog (thenU (Instr.storeAt 245 t42 t41)) (fun _ w_4 => 
   pur Tryz.prog (binS .add 3 false true v_k (.int .i64 1)) fun t29 => 
   J_1 t29 w_4) (World.drew w_3)) (World.drew w_3)) (World.drew w_3)) (World.drew w_3))
    (pur Tryz.prog (binS .add 3 false true v_i (.int .i64 1)) fun t13 => 
  J t13 w_3)) [(.int .i64 0)] w_2) w_1) w_1) w_1)
   (Q (.tuple #[]) w_1)) w_1) [(.int .i64 0)] w
theorem eq118 (v_b : Value) (Q : Value → World → Prop) (w : World) : semF Tryz.prog 118 [v_b] Q w = S118 v_b Q w := by kernel_rfl
theorem ref118 {v_b : Value} {Q : Value → World → Prop} {w : World} (h : S118 v_b Q w) : callS Tryz.prog 118 #[v_b] Q w :=
  callS_of mix (fun a w => Tryz.call118 a w) (by kernel_rfl) (by rw [eq118]; exact h)
-- (*commons/commonsbook.Book).putSteps
def S119 (v_b : Value) (Q : Value → World → Prop) (w : World) : Prop :=
 lp 1 (fun J => fun v_i w_1 => ∀ _j : Fr, 
  pur Tryz.prog (nilV v_b) fun t7 => 
  pur Tryz.prog (Instr.fieldAt 51 t7 28) fun t8 => 
  rd Tryz.prog (Instr.loadAt 49 t8) (fun t9 => 
  pur Tryz.prog (Builtin.len_ #[49] 3 #[t9]) fun t10 => 
  pur Tryz.prog (binS .lss 3 false false v_i t10) fun t11 => 
  condS t11
   (pur Tryz.prog (nilV v_b) fun t16 => 
  pur Tryz.prog (Instr.fieldAt 51 t16 28) fun t17 => 
  rd Tryz.prog (Instr.loadAt 49 t17) (fun t18 => 
  pur Tryz.prog (Instr.indexAt 49 t18 v_i) fun t20 => 
  rd Tryz.prog (Instr.loadAt 239 t20) (fun t21 => 
  pur Tryz.prog (Builtin.len_ #[239] 3 #[t21]) fun t22 => 
  callS Tryz.prog 208 #[v_i, (.int .i64 0), t22] (fun t23 w_2 => 
  lp 1 (fun J_1 => fun v_k w_3 => ∀ _j : Fr, 
   pur Tryz.prog (Builtin.len_ #[239] 3 #[t23]) fun t26 => 
   pur Tryz.prog (binS .lss 3 false false v_k t26) fun t27 => 
   condS t27
    (pur Tryz.prog (nilV v_b) fun t31 => 
   pur Tryz.prog (Instr.fieldAt 51 t31 28) fun t32 => 
   rd Tryz.prog (Instr.loadAt 49 t32) (fun t33 => 
   pur Tryz.prog (Instr.indexAt 49 t33 v_i) fun t35 => 
   rd Tryz.prog (Instr.loadAt 239 t35) (fun t36 => 
   pur Tryz.prog (Instr.indexAt 239 t23 v_k) fun t40 => 
   rd Tryz.prog (Instr.loadAt 248 t40) (fun t41 => 
   pur Tryz.prog (Instr.indexAt 239 t36 v_k) fun t42 => 
   act Tryz.prog (thenU (Instr.storeAt 248 t42 t41)) (fun _ w_4 => 
   pur Tryz.prog (binS .add 3 false true v_k (.int .i64 1)) fun t29 => 
   J_1 t29 w_4) (World.drew w_3)) (World.drew w_3)) (World.drew w_3)) (World.drew w_3))
    (pur Tryz.prog (binS .add 3 false true v_i (.int .i64 1)) fun t13 => 
  J t13 w_3)) [(.int .i64 0)] w_2) w_1) w_1) w_1)
   (Q (.tuple #[]) w_1)) w_1) [(.int .i64 0)] w
theorem eq119 (v_b : Value) (Q : Value → World → Prop) (w : World) : semF Tryz.prog 119 [v_b] Q w = S119 v_b Q w := by kernel_rfl
theorem ref119 {v_b : Value} {Q : Value → World → Prop} {w : World} (h : S119 v_b Q w) : callS Tryz.prog 119 #[v_b] Q w :=
  callS_of mix (fun a w => Tryz.call119 a w) (by kernel_rfl) (by rw [eq119]; exact h)
-- (*commons/commonsbook.Book).putTexts
def S120 (v_b : Value) (Q : Value → World → Prop) (w : World) : Prop :=
 lp 1 (fun J => fun v_i w_1 => ∀ _j : Fr, 
  pur Tryz.prog (nilV v_b) fun t7 => 
  pur Tryz.prog (Instr.fieldAt 51 t7 0) fun t8 => 
  rd Tryz.prog (Instr.loadAt 35 t8) (fun t9 => 
  pur Tryz.prog (Builtin.len_ #[35] 3 #[t9]) fun t10 => 
  pur Tryz.prog (binS .lss 3 false false v_i t10) fun t11 => 
  condS t11
   (pur Tryz.prog (nilV v_b) fun t16 => 
  pur Tryz.prog (Instr.fieldAt 51 t16 0) fun t17 => 
  rd Tryz.prog (Instr.loadAt 35 t17) (fun t18 => 
  pur Tryz.prog (Instr.indexAt 35 t18 v_i) fun t20 => 
  rd Tryz.prog (Instr.loadAt 220 t20) (fun t21 => 
  pur Tryz.prog (Builtin.len_ #[220] 3 #[t21]) fun t22 => 
  callS Tryz.prog 209 #[v_i, (.int .i64 0), t22] (fun t23 w_2 => 
  lp 1 (fun J_1 => fun v_k w_3 => ∀ _j : Fr, 
   pur Tryz.prog (Builtin.len_ #[220] 3 #[t23]) fun t26 => 
   pur Tryz.prog (binS .lss 3 false false v_k t26) fun t27 => 
   condS t27
    (pur Tryz.prog (nilV v_b) fun t31 => 
   pur Tryz.prog (Instr.fieldAt 51 t31 0) fun t32 => 
   rd Tryz.prog (Instr.loadAt 35 t32) (fun t33 => 
   pur Tryz.prog (Instr.indexAt 35 t33 v_i) fun t35 => 
   rd Tryz.prog (Instr.loadAt 220 t35) (fun t36 => 
   pur Tryz.prog (Instr.indexAt 220 t23 v_k) fun t40 => 
   rd Tryz.prog (Instr.loadAt 9 t40) (fun t41 => 
   pur Tryz.prog (Instr.indexAt 220 t36 v_k) fun t42 => 
   act Tryz.prog (thenU (Instr.storeAt 9 t42 t41)) (fun _ w_4 => 
   pur Tryz.prog (binS .add 3 false true v_k (.int .i64 1)) fun t29 => 
   J_1 t29 w_4) (World.drew w_3)) (World.drew w_3)) (World.drew w_3)) (World.drew w_3))
    (pur Tryz.prog (binS .add 3 false true v_i (.int .i64 1)) fun t13 => 
  J t13 w_3)) [(.int .i64 0)] w_2) w_1) w_1) w_1)
   (Q (.tuple #[]) w_1)) w_1) [(.int .i64 0)] w
theorem eq120 (v_b : Value) (Q : Value → World → Prop) (w : World) : semF Tryz.prog 120 [v_b] Q w = S120 v_b Q w := by kernel_rfl
theorem ref120 {v_b : Value} {Q : Value → World → Prop} {w : World} (h : S120 v_b Q w) : callS Tryz.prog 120 #[v_b] Q w :=
  callS_of mix (fun a w => Tryz.call120 a w) (by kernel_rfl) (by rw [eq120]; exact h)
-- (*commons/commonsbook.Book).putInts
def S121 (v_b : Value) (Q : Value → World → Prop) (w : World) : Prop :=
 lp 1 (fun J => fun v_i w_1 => ∀ _j : Fr, 
  pur Tryz.prog (nilV v_b) fun t7 => 
  pur Tryz.prog (Instr.fieldAt 51 t7 2) fun t8 => 
  rd Tryz.prog (Instr.loadAt 36 t8) (fun t9 => 
  pur Tryz.prog (Builtin.len_ #[36] 3 #[t9]) fun t10 => 
  pur Tryz.prog (binS .lss 3 false false v_i t10) fun t11 => 
  condS t11
   (pur Tryz.prog (nilV v_b) fun t16 => 
  pur Tryz.prog (Instr.fieldAt 51 t16 2) fun t17 => 
  rd Tryz.prog (Instr.loadAt 36 t17) (fun t18 => 
  pur Tryz.prog (Instr.indexAt 36 t18 v_i) fun t20 => 
  rd Tryz.prog (Instr.loadAt 64 t20) (fun t21 => 
  pur Tryz.prog (Builtin.len_ #[64] 3 #[t21]) fun t22 => 
  callS Tryz.prog 210 #[v_i, (.int .i64 0), t22] (fun t23 w_2 => 
  lp 1 (fun J_1 => fun v_k w_3 => ∀ _j : Fr, 
   pur Tryz.prog (Builtin.len_ #[64] 3 #[t23]) fun t26 => 
   pur Tryz.prog (binS .lss 3 false false v_k t26) fun t27 => 
   condS t27
    (pur Tryz.prog (nilV v_b) fun t31 => 
   pur Tryz.prog (Instr.fieldAt 51 t31 2) fun t32 => 
   rd Tryz.prog (Instr.loadAt 36 t32) (fun t33 => 
   pur Tryz.prog (Instr.indexAt 36 t33 v_i) fun t35 => 
   rd Tryz.prog (Instr.loadAt 64 t35) (fun t36 => 
   pur Tryz.prog (Instr.indexAt 64 t23 v_k) fun t40 => 
   rd Tryz.prog (Instr.loadAt 3 t40) (fun t41 => 
   pur Tryz.prog (Instr.indexAt 64 t36 v_k) fun t42 => 
   act Tryz.prog (thenU (Instr.storeAt 3 t42 t41)) (fun _ w_4 => 
   pur Tryz.prog (binS .add 3 false true v_k (.int .i64 1)) fun t29 => 
   J_1 t29 w_4) (World.drew w_3)) (World.drew w_3)) (World.drew w_3)) (World.drew w_3))
    (pur Tryz.prog (binS .add 3 false true v_i (.int .i64 1)) fun t13 => 
  J t13 w_3)) [(.int .i64 0)] w_2) w_1) w_1) w_1)
   (Q (.tuple #[]) w_1)) w_1) [(.int .i64 0)] w
theorem eq121 (v_b : Value) (Q : Value → World → Prop) (w : World) : semF Tryz.prog 121 [v_b] Q w = S121 v_b Q w := by kernel_rfl
theorem ref121 {v_b : Value} {Q : Value → World → Prop} {w : World} (h : S121 v_b Q w) : callS Tryz.prog 121 #[v_b] Q w :=
  callS_of mix (fun a w => Tryz.call121 a w) (by kernel_rfl) (by rw [eq121]; exact h)
-- (*commons/commonsbook.Book).putNums
def S122 (v_b : Value) (Q : Value → World → Prop) (w : World) : Prop :=
 lp 1 (fun J => fun v_i w_1 => ∀ _j : Fr, 
  pur Tryz.prog (nilV v_b) fun t7 => 
  pur Tryz.prog (Instr.fieldAt 51 t7 4) fun t8 => 
  rd Tryz.prog (Instr.loadAt 37 t8) (fun t9 => 
  pur Tryz.prog (Builtin.len_ #[37] 3 #[t9]) fun t10 => 
  pur Tryz.prog (binS .lss 3 false false v_i t10) fun t11 => 
  condS t11
   (pur Tryz.prog (nilV v_b) fun t16 => 
  pur Tryz.prog (Instr.fieldAt 51 t16 4) fun t17 => 
  rd Tryz.prog (Instr.loadAt 37 t17) (fun t18 => 
  pur Tryz.prog (Instr.indexAt 37 t18 v_i) fun t20 => 
  rd Tryz.prog (Instr.loadAt 222 t20) (fun t21 => 
  pur Tryz.prog (Builtin.len_ #[222] 3 #[t21]) fun t22 => 
  callS Tryz.prog 211 #[v_i, (.int .i64 0), t22] (fun t23 w_2 => 
  lp 1 (fun J_1 => fun v_k w_3 => ∀ _j : Fr, 
   pur Tryz.prog (Builtin.len_ #[222] 3 #[t23]) fun t26 => 
   pur Tryz.prog (binS .lss 3 false false v_k t26) fun t27 => 
   condS t27
    (pur Tryz.prog (nilV v_b) fun t31 => 
   pur Tryz.prog (Instr.fieldAt 51 t31 4) fun t32 => 
   rd Tryz.prog (Instr.loadAt 37 t32) (fun t33 => 
   pur Tryz.prog (Instr.indexAt 37 t33 v_i) fun t35 => 
   rd Tryz.prog (Instr.loadAt 222 t35) (fun t36 => 
   pur Tryz.prog (Instr.indexAt 222 t23 v_k) fun t40 => 
   rd Tryz.prog (Instr.loadAt 136 t40) (fun t41 => 
   pur Tryz.prog (Instr.indexAt 222 t36 v_k) fun t42 => 
   act Tryz.prog (thenU (Instr.storeAt 136 t42 t41)) (fun _ w_4 => 
   pur Tryz.prog (binS .add 3 false true v_k (.int .i64 1)) fun t29 => 
   J_1 t29 w_4) (World.drew w_3)) (World.drew w_3)) (World.drew w_3)) (World.drew w_3))
    (pur Tryz.prog (binS .add 3 false true v_i (.int .i64 1)) fun t13 => 
  J t13 w_3)) [(.int .i64 0)] w_2) w_1) w_1) w_1)
   (Q (.tuple #[]) w_1)) w_1) [(.int .i64 0)] w
theorem eq122 (v_b : Value) (Q : Value → World → Prop) (w : World) : semF Tryz.prog 122 [v_b] Q w = S122 v_b Q w := by kernel_rfl
theorem ref122 {v_b : Value} {Q : Value → World → Prop} {w : World} (h : S122 v_b Q w) : callS Tryz.prog 122 #[v_b] Q w :=
  callS_of mix (fun a w => Tryz.call122 a w) (by kernel_rfl) (by rw [eq122]; exact h)
-- (*commons/commonsbook.Book).putSpans
def S123 (v_b : Value) (Q : Value → World → Prop) (w : World) : Prop :=
 lp 1 (fun J => fun v_i w_1 => ∀ _j : Fr, 
  pur Tryz.prog (nilV v_b) fun t7 => 
  pur Tryz.prog (Instr.fieldAt 51 t7 6) fun t8 => 
  rd Tryz.prog (Instr.loadAt 38 t8) (fun t9 => 
  pur Tryz.prog (Builtin.len_ #[38] 3 #[t9]) fun t10 => 
  pur Tryz.prog (binS .lss 3 false false v_i t10) fun t11 => 
  condS t11
   (pur Tryz.prog (nilV v_b) fun t16 => 
  pur Tryz.prog (Instr.fieldAt 51 t16 6) fun t17 => 
  rd Tryz.prog (Instr.loadAt 38 t17) (fun t18 => 
  pur Tryz.prog (Instr.indexAt 38 t18 v_i) fun t20 => 
  rd Tryz.prog (Instr.loadAt 70 t20) (fun t21 => 
  pur Tryz.prog (Builtin.len_ #[70] 3 #[t21]) fun t22 => 
  callS Tryz.prog 212 #[v_i, (.int .i64 0), t22] (fun t23 w_2 => 
  lp 1 (fun J_1 => fun v_k w_3 => ∀ _j : Fr, 
   pur Tryz.prog (Builtin.len_ #[70] 3 #[t23]) fun t26 => 
   pur Tryz.prog (binS .lss 3 false false v_k t26) fun t27 => 
   condS t27
    (pur Tryz.prog (nilV v_b) fun t31 => 
   pur Tryz.prog (Instr.fieldAt 51 t31 6) fun t32 => 
   rd Tryz.prog (Instr.loadAt 38 t32) (fun t33 => 
   pur Tryz.prog (Instr.indexAt 38 t33 v_i) fun t35 => 
   rd Tryz.prog (Instr.loadAt 70 t35) (fun t36 => 
   pur Tryz.prog (Instr.indexAt 70 t23 v_k) fun t40 => 
   rd Tryz.prog (Instr.loadAt 72 t40) (fun t41 => 
   pur Tryz.prog (Instr.indexAt 70 t36 v_k) fun t42 => 
   act Tryz.prog (thenU (Instr.storeAt 72 t42 t41)) (fun _ w_4 => 
   pur Tryz.prog (binS .add 3 false true v_k (.int .i64 1)) fun t29 => 
   J_1 t29 w_4) (World.drew w_3)) (World.drew w_3)) (World.drew w_3)) (World.drew w_3))
    (pur Tryz.prog (binS .add 3 false true v_i (.int .i64 1)) fun t13 => 
  J t13 w_3)) [(.int .i64 0)] w_2) w_1) w_1) w_1)
   (Q (.tuple #[]) w_1)) w_1) [(.int .i64 0)] w
theorem eq123 (v_b : Value) (Q : Value → World → Prop) (w : World) : semF Tryz.prog 123 [v_b] Q w = S123 v_b Q w := by kernel_rfl
theorem ref123 {v_b : Value} {Q : Value → World → Prop} {w : World} (h : S123 v_b Q w) : callS Tryz.prog 123 #[v_b] Q w :=
  callS_of mix (fun a w => Tryz.call123 a w) (by kernel_rfl) (by rw [eq123]; exact h)
-- (*commons/commonsbook.Book).putLocks
def S124 (v_b : Value) (Q : Value → World → Prop) (w : World) : Prop :=
 lp 1 (fun J => fun v_i w_1 => ∀ _j : Fr, 
  pur Tryz.prog (nilV v_b) fun t7 => 
  pur Tryz.prog (Instr.fieldAt 51 t7 8) fun t8 => 
  rd Tryz.prog (Instr.loadAt 39 t8) (fun t9 => 
  pur Tryz.prog (Builtin.len_ #[39] 3 #[t9]) fun t10 => 
  pur Tryz.prog (binS .lss 3 false false v_i t10) fun t11 => 
  condS t11
   (pur Tryz.prog (nilV v_b) fun t16 => 
  pur Tryz.prog (Instr.fieldAt 51 t16 8) fun t17 => 
  rd Tryz.prog (Instr.loadAt 39 t17) (fun t18 => 
  pur Tryz.prog (Instr.indexAt 39 t18 v_i) fun t20 => 
  rd Tryz.prog (Instr.loadAt 109 t20) (fun t21 => 
  pur Tryz.prog (Builtin.len_ #[109] 3 #[t21]) fun t22 => 
  callS Tryz.prog 213 #[v_i, (.int .i64 0), t22] (fun t23 w_2 => 
  lp 1 (fun J_1 => fun v_k w_3 => ∀ _j : Fr, 
   pur Tryz.prog (Builtin.len_ #[109] 3 #[t23]) fun t26 => 
   pur Tryz.prog (binS .lss 3 false false v_k t26) fun t27 => 
   condS t27
    (pur Tryz.prog (nilV v_b) fun t31 => 
   pur Tryz.prog (Instr.fieldAt 51 t31 8) fun t32 => 
   rd Tryz.prog (Instr.loadAt 39 t32) (fun t33 => 
   pur Tryz.prog (Instr.indexAt 39 t33 v_i) fun t35 => 
   rd Tryz.prog (Instr.loadAt 109 t35) (fun t36 => 
   pur Tryz.prog (Instr.indexAt 109 t23 v_k) fun t40 => 
   rd Tryz.prog (Instr.loadAt 143 t40) (fun t41 => 
   pur Tryz.prog (Instr.indexAt 109 t36 v_k) fun t42 => 
   act Tryz.prog (thenU (Instr.storeAt 143 t42 t41)) (fun _ w_4 => 
   pur Tryz.prog (binS .add 3 false true v_k (.int .i64 1)) fun t29 => 
   J_1 t29 w_4) (World.drew w_3)) (World.drew w_3)) (World.drew w_3)) (World.drew w_3))
    (pur Tryz.prog (binS .add 3 false true v_i (.int .i64 1)) fun t13 => 
  J t13 w_3)) [(.int .i64 0)] w_2) w_1) w_1) w_1)
   (Q (.tuple #[]) w_1)) w_1) [(.int .i64 0)] w
theorem eq124 (v_b : Value) (Q : Value → World → Prop) (w : World) : semF Tryz.prog 124 [v_b] Q w = S124 v_b Q w := by kernel_rfl
theorem ref124 {v_b : Value} {Q : Value → World → Prop} {w : World} (h : S124 v_b Q w) : callS Tryz.prog 124 #[v_b] Q w :=
  callS_of mix (fun a w => Tryz.call124 a w) (by kernel_rfl) (by rw [eq124]; exact h)
-- (*commons/commonsbook.Book).putImages
def S125 (v_b : Value) (Q : Value → World → Prop) (w : World) : Prop :=
 lp 1 (fun J => fun v_i w_1 => ∀ _j : Fr, 
  pur Tryz.prog (nilV v_b) fun t7 => 
  pur Tryz.prog (Instr.fieldAt 51 t7 10) fun t8 => 
  rd Tryz.prog (Instr.loadAt 40 t8) (fun t9 => 
  pur Tryz.prog (Builtin.len_ #[40] 3 #[t9]) fun t10 => 
  pur Tryz.prog (binS .lss 3 false false v_i t10) fun t11 => 
  condS t11
   (pur Tryz.prog (nilV v_b) fun t16 => 
  pur Tryz.prog (Instr.fieldAt 51 t16 10) fun t17 => 
  rd Tryz.prog (Instr.loadAt 40 t17) (fun t18 => 
  pur Tryz.prog (Instr.indexAt 40 t18 v_i) fun t20 => 
  rd Tryz.prog (Instr.loadAt 131 t20) (fun t21 => 
  pur Tryz.prog (Builtin.len_ #[131] 3 #[t21]) fun t22 => 
  callS Tryz.prog 214 #[v_i, (.int .i64 0), t22] (fun t23 w_2 => 
  lp 1 (fun J_1 => fun v_k w_3 => ∀ _j : Fr, 
   pur Tryz.prog (Builtin.len_ #[131] 3 #[t23]) fun t26 => 
   pur Tryz.prog (binS .lss 3 false false v_k t26) fun t27 => 
   condS t27
    (pur Tryz.prog (nilV v_b) fun t31 => 
   pur Tryz.prog (Instr.fieldAt 51 t31 10) fun t32 => 
   rd Tryz.prog (Instr.loadAt 40 t32) (fun t33 => 
   pur Tryz.prog (Instr.indexAt 40 t33 v_i) fun t35 => 
   rd Tryz.prog (Instr.loadAt 131 t35) (fun t36 => 
   pur Tryz.prog (Instr.indexAt 131 t23 v_k) fun t40 => 
   rd Tryz.prog (Instr.loadAt 138 t40) (fun t41 => 
   pur Tryz.prog (Instr.indexAt 131 t36 v_k) fun t42 => 
   act Tryz.prog (thenU (Instr.storeAt 138 t42 t41)) (fun _ w_4 => 
   pur Tryz.prog (binS .add 3 false true v_k (.int .i64 1)) fun t29 => 
   J_1 t29 w_4) (World.drew w_3)) (World.drew w_3)) (World.drew w_3)) (World.drew w_3))
    (pur Tryz.prog (binS .add 3 false true v_i (.int .i64 1)) fun t13 => 
  J t13 w_3)) [(.int .i64 0)] w_2) w_1) w_1) w_1)
   (Q (.tuple #[]) w_1)) w_1) [(.int .i64 0)] w
theorem eq125 (v_b : Value) (Q : Value → World → Prop) (w : World) : semF Tryz.prog 125 [v_b] Q w = S125 v_b Q w := by kernel_rfl
theorem ref125 {v_b : Value} {Q : Value → World → Prop} {w : World} (h : S125 v_b Q w) : callS Tryz.prog 125 #[v_b] Q w :=
  callS_of mix (fun a w => Tryz.call125 a w) (by kernel_rfl) (by rw [eq125]; exact h)
-- (*commons/commonsbook.Book).putPackets
def S126 (v_b : Value) (Q : Value → World → Prop) (w : World) : Prop :=
 lp 1 (fun J => fun v_i w_1 => ∀ _j : Fr, 
  pur Tryz.prog (nilV v_b) fun t7 => 
  pur Tryz.prog (Instr.fieldAt 51 t7 14) fun t8 => 
  rd Tryz.prog (Instr.loadAt 42 t8) (fun t9 => 
  pur Tryz.prog (Builtin.len_ #[42] 3 #[t9]) fun t10 => 
  pur Tryz.prog (binS .lss 3 false false v_i t10) fun t11 => 
  condS t11
   (pur Tryz.prog (nilV v_b) fun t16 => 
  pur Tryz.prog (Instr.fieldAt 51 t16 14) fun t17 => 
  rd Tryz.prog (Instr.loadAt 42 t17) (fun t18 => 
  pur Tryz.prog (Instr.indexAt 42 t18 v_i) fun t20 => 
  rd Tryz.prog (Instr.loadAt 226 t20) (fun t21 => 
  pur Tryz.prog (Builtin.len_ #[226] 3 #[t21]) fun t22 => 
  callS Tryz.prog 215 #[v_i, (.int .i64 0), t22] (fun t23 w_2 => 
  lp 1 (fun J_1 => fun v_k w_3 => ∀ _j : Fr, 
   pur Tryz.prog (Builtin.len_ #[226] 3 #[t23]) fun t26 => 
   pur Tryz.prog (binS .lss 3 false false v_k t26) fun t27 => 
   condS t27
    (pur Tryz.prog (nilV v_b) fun t31 => 
   pur Tryz.prog (Instr.fieldAt 51 t31 14) fun t32 => 
   rd Tryz.prog (Instr.loadAt 42 t32) (fun t33 => 
   pur Tryz.prog (Instr.indexAt 42 t33 v_i) fun t35 => 
   rd Tryz.prog (Instr.loadAt 226 t35) (fun t36 => 
   pur Tryz.prog (Instr.indexAt 226 t23 v_k) fun t40 => 
   rd Tryz.prog (Instr.loadAt 257 t40) (fun t41 => 
   pur Tryz.prog (Instr.indexAt 226 t36 v_k) fun t42 => 
   act Tryz.prog (thenU (Instr.storeAt 257 t42 t41)) (fun _ w_4 => 
   pur Tryz.prog (binS .add 3 false true v_k (.int .i64 1)) fun t29 => 
   J_1 t29 w_4) (World.drew w_3)) (World.drew w_3)) (World.drew w_3)) (World.drew w_3))
    (pur Tryz.prog (binS .add 3 false true v_i (.int .i64 1)) fun t13 => 
  J t13 w_3)) [(.int .i64 0)] w_2) w_1) w_1) w_1)
   (Q (.tuple #[]) w_1)) w_1) [(.int .i64 0)] w
theorem eq126 (v_b : Value) (Q : Value → World → Prop) (w : World) : semF Tryz.prog 126 [v_b] Q w = S126 v_b Q w := by kernel_rfl
theorem ref126 {v_b : Value} {Q : Value → World → Prop} {w : World} (h : S126 v_b Q w) : callS Tryz.prog 126 #[v_b] Q w :=
  callS_of mix (fun a w => Tryz.call126 a w) (by kernel_rfl) (by rw [eq126]; exact h)
-- (*commons/commonsbook.Book).putFrames
def S127 (v_b : Value) (Q : Value → World → Prop) (w : World) : Prop :=
 lp 1 (fun J => fun v_i w_1 => ∀ _j : Fr, 
  pur Tryz.prog (nilV v_b) fun t7 => 
  pur Tryz.prog (Instr.fieldAt 51 t7 16) fun t8 => 
  rd Tryz.prog (Instr.loadAt 43 t8) (fun t9 => 
  pur Tryz.prog (Builtin.len_ #[43] 3 #[t9]) fun t10 => 
  pur Tryz.prog (binS .lss 3 false false v_i t10) fun t11 => 
  condS t11
   (pur Tryz.prog (nilV v_b) fun t16 => 
  pur Tryz.prog (Instr.fieldAt 51 t16 16) fun t17 => 
  rd Tryz.prog (Instr.loadAt 43 t17) (fun t18 => 
  pur Tryz.prog (Instr.indexAt 43 t18 v_i) fun t20 => 
  rd Tryz.prog (Instr.loadAt 228 t20) (fun t21 => 
  pur Tryz.prog (Builtin.len_ #[228] 3 #[t21]) fun t22 => 
  callS Tryz.prog 216 #[v_i, (.int .i64 0), t22] (fun t23 w_2 => 
  lp 1 (fun J_1 => fun v_k w_3 => ∀ _j : Fr, 
   pur Tryz.prog (Builtin.len_ #[228] 3 #[t23]) fun t26 => 
   pur Tryz.prog (binS .lss 3 false false v_k t26) fun t27 => 
   condS t27
    (pur Tryz.prog (nilV v_b) fun t31 => 
   pur Tryz.prog (Instr.fieldAt 51 t31 16) fun t32 => 
   rd Tryz.prog (Instr.loadAt 43 t32) (fun t33 => 
   pur Tryz.prog (Instr.indexAt 43 t33 v_i) fun t35 => 
   rd Tryz.prog (Instr.loadAt 228 t35) (fun t36 => 
   pur Tryz.prog (Instr.indexAt 228 t23 v_k) fun t40 => 
   rd Tryz.prog (Instr.loadAt 260 t40) (fun t41 => 
   pur Tryz.prog (Instr.indexAt 228 t36 v_k) fun t42 => 
   act Tryz.prog (thenU (Instr.storeAt 260 t42 t41)) (fun _ w_4 => 
   pur Tryz.prog (binS .add 3 false true v_k (.int .i64 1)) fun t29 => 
   J_1 t29 w_4) (World.drew w_3)) (World.drew w_3)) (World.drew w_3)) (World.drew w_3))
    (pur Tryz.prog (binS .add 3 false true v_i (.int .i64 1)) fun t13 => 
  J t13 w_3)) [(.int .i64 0)] w_2) w_1) w_1) w_1)
   (Q (.tuple #[]) w_1)) w_1) [(.int .i64 0)] w
theorem eq127 (v_b : Value) (Q : Value → World → Prop) (w : World) : semF Tryz.prog 127 [v_b] Q w = S127 v_b Q w := by kernel_rfl
theorem ref127 {v_b : Value} {Q : Value → World → Prop} {w : World} (h : S127 v_b Q w) : callS Tryz.prog 127 #[v_b] Q w :=
  callS_of mix (fun a w => Tryz.call127 a w) (by kernel_rfl) (by rw [eq127]; exact h)
-- (*commons/commonsbook.Book).putWaits
def S128 (v_b : Value) (Q : Value → World → Prop) (w : World) : Prop :=
 lp 1 (fun J => fun v_i w_1 => ∀ _j : Fr, 
  pur Tryz.prog (nilV v_b) fun t7 => 
  pur Tryz.prog (Instr.fieldAt 51 t7 18) fun t8 => 
  rd Tryz.prog (Instr.loadAt 44 t8) (fun t9 => 
  pur Tryz.prog (Builtin.len_ #[44] 3 #[t9]) fun t10 => 
  pur Tryz.prog (binS .lss 3 false false v_i t10) fun t11 => 
  condS t11
   (pur Tryz.prog (nilV v_b) fun t16 => 
  pur Tryz.prog (Instr.fieldAt 51 t16 18) fun t17 => 
  rd Tryz.prog (Instr.loadAt 44 t17) (fun t18 => 
  pur Tryz.prog (Instr.indexAt 44 t18 v_i) fun t20 => 
  rd Tryz.prog (Instr.loadAt 230 t20) (fun t21 => 
  pur Tryz.prog (Builtin.len_ #[230] 3 #[t21]) fun t22 => 
  callS Tryz.prog 217 #[v_i, (.int .i64 0), t22] (fun t23 w_2 => 
  lp 1 (fun J_1 => fun v_k w_3 => ∀ _j : Fr, 
   pur Tryz.prog (Builtin.len_ #[230] 3 #[t23]) fun t26 => 
   pur Tryz.prog (binS .lss 3 false false v_k t26) fun t27 => 
   condS t27
    (pur Tryz.prog (nilV v_b) fun t31 => 
   pur Tryz.prog (Instr.fieldAt 51 t31 18) fun t32 => 
   rd Tryz.prog (Instr.loadAt 44 t32) (fun t33 => 
   pur Tryz.prog (Instr.indexAt 44 t33 v_i) fun t35 => 
   rd Tryz.prog (Instr.loadAt 230 t35) (fun t36 => 
   pur Tryz.prog (Instr.indexAt 230 t23 v_k) fun t40 => 
   rd Tryz.prog (Instr.loadAt 263 t40) (fun t41 => 
   pur Tryz.prog (Instr.indexAt 230 t36 v_k) fun t42 => 
   act Tryz.prog (thenU (Instr.storeAt 263 t42 t41)) (fun _ w_4 => 
   pur Tryz.prog (binS .add 3 false true v_k (.int .i64 1)) fun t29 => 
   J_1 t29 w_4) (World.drew w_3)) (World.drew w_3)) (World.drew w_3)) (World.drew w_3))
    (pur Tryz.prog (binS .add 3 false true v_i (.int .i64 1)) fun t13 => 
  J t13 w_3)) [(.int .i64 0)] w_2) w_1) w_1) w_1)
   (Q (.tuple #[]) w_1)) w_1) [(.int .i64 0)] w
theorem eq128 (v_b : Value) (Q : Value → World → Prop) (w : World) : semF Tryz.prog 128 [v_b] Q w = S128 v_b Q w := by kernel_rfl
theorem ref128 {v_b : Value} {Q : Value → World → Prop} {w : World} (h : S128 v_b Q w) : callS Tryz.prog 128 #[v_b] Q w :=
  callS_of mix (fun a w => Tryz.call128 a w) (by kernel_rfl) (by rw [eq128]; exact h)
-- (*commons/commonsbook.Book).putRevokes
def S129 (v_b : Value) (Q : Value → World → Prop) (w : World) : Prop :=
 lp 1 (fun J => fun v_i w_1 => ∀ _j : Fr, 
  pur Tryz.prog (nilV v_b) fun t7 => 
  pur Tryz.prog (Instr.fieldAt 51 t7 20) fun t8 => 
  rd Tryz.prog (Instr.loadAt 45 t8) (fun t9 => 
  pur Tryz.prog (Builtin.len_ #[45] 3 #[t9]) fun t10 => 
  pur Tryz.prog (binS .lss 3 false false v_i t10) fun t11 => 
  condS t11
   (pur Tryz.prog (nilV v_b) fun t16 => 
  pur Tryz.prog (Instr.fieldAt 51 t16 20) fun t17 => 
  rd Tryz.prog (Instr.loadAt 45 t17) (fun t18 => 
  pur Tryz.prog (Instr.indexAt 45 t18 v_i) fun t20 => 
  rd Tryz.prog (Instr.loadAt 232 t20) (fun t21 => 
  pur Tryz.prog (Builtin.len_ #[232] 3 #[t21]) fun t22 => 
  callS Tryz.prog 218 #[v_i, (.int .i64 0), t22] (fun t23 w_2 => 
  lp 1 (fun J_1 => fun v_k w_3 => ∀ _j : Fr, 
   pur Tryz.prog (Builtin.len_ #[232] 3 #[t23]) fun t26 => 
   pur Tryz.prog (binS .lss 3 false false v_k t26) fun t27 => 
   condS t27
    (pur Tryz.prog (nilV v_b) fun t31 => 
   pur Tryz.prog (Instr.fieldAt 51 t31 20) fun t32 => 
   rd Tryz.prog (Instr.loadAt 45 t32) (fun t33 => 
   pur Tryz.prog (Instr.indexAt 45 t33 v_i) fun t35 => 
   rd Tryz.prog (Instr.loadAt 232 t35) (fun t36 => 
   pur Tryz.prog (Instr.indexAt 232 t23 v_k) fun t40 => 
   rd Tryz.prog (Instr.loadAt 266 t40) (fun t41 => 
   pur Tryz.prog (Instr.indexAt 232 t36 v_k) fun t42 => 
   act Tryz.prog (thenU (Instr.storeAt 266 t42 t41)) (fun _ w_4 => 
   pur Tryz.prog (binS .add 3 false true v_k (.int .i64 1)) fun t29 => 
   J_1 t29 w_4) (World.drew w_3)) (World.drew w_3)) (World.drew w_3)) (World.drew w_3))
    (pur Tryz.prog (binS .add 3 false true v_i (.int .i64 1)) fun t13 => 
  J t13 w_3)) [(.int .i64 0)] w_2) w_1) w_1) w_1)
   (Q (.tuple #[]) w_1)) w_1) [(.int .i64 0)] w
theorem eq129 (v_b : Value) (Q : Value → World → Prop) (w : World) : semF Tryz.prog 129 [v_b] Q w = S129 v_b Q w := by kernel_rfl
theorem ref129 {v_b : Value} {Q : Value → World → Prop} {w : World} (h : S129 v_b Q w) : callS Tryz.prog 129 #[v_b] Q w :=
  callS_of mix (fun a w => Tryz.call129 a w) (by kernel_rfl) (by rw [eq129]; exact h)
-- (*commons/commonsbook.Book).putEntries
def S130 (v_b : Value) (Q : Value → World → Prop) (w : World) : Prop :=
 lp 1 (fun J => fun v_i w_1 => ∀ _j : Fr, 
  pur Tryz.prog (nilV v_b) fun t7 => 
  pur Tryz.prog (Instr.fieldAt 51 t7 22) fun t8 => 
  rd Tryz.prog (Instr.loadAt 46 t8) (fun t9 => 
  pur Tryz.prog (Builtin.len_ #[46] 3 #[t9]) fun t10 => 
  pur Tryz.prog (binS .lss 3 false false v_i t10) fun t11 => 
  condS t11
   (pur Tryz.prog (nilV v_b) fun t16 => 
  pur Tryz.prog (Instr.fieldAt 51 t16 22) fun t17 => 
  rd Tryz.prog (Instr.loadAt 46 t17) (fun t18 => 
  pur Tryz.prog (Instr.indexAt 46 t18 v_i) fun t20 => 
  rd Tryz.prog (Instr.loadAt 234 t20) (fun t21 => 
  pur Tryz.prog (Builtin.len_ #[234] 3 #[t21]) fun t22 => 
  callS Tryz.prog 219 #[v_i, (.int .i64 0), t22] (fun t23 w_2 => 
  lp 1 (fun J_1 => fun v_k w_3 => ∀ _j : Fr, 
   pur Tryz.prog (Builtin.len_ #[234] 3 #[t23]) fun t26 => 
   pur Tryz.prog (binS .lss 3 false false v_k t26) fun t27 => 
   condS t27
    (pur Tryz.prog (nilV v_b) fun t31 => 
   pur Tryz.prog (Instr.fieldAt 51 t31 22) fun t32 => 
   rd Tryz.prog (Instr.loadAt 46 t32) (fun t33 => 
   pur Tryz.prog (Instr.indexAt 46 t33 v_i) fun t35 => 
   rd Tryz.prog (Instr.loadAt 234 t35) (fun t36 => 
   pur Tryz.prog (Instr.indexAt 234 t23 v_k) fun t40 => 
   rd Tryz.prog (Instr.loadAt 269 t40) (fun t41 => 
   pur Tryz.prog (Instr.indexAt 234 t36 v_k) fun t42 => 
   act Tryz.prog (thenU (Instr.storeAt 269 t42 t41)) (fun _ w_4 => 
   pur Tryz.prog (binS .add 3 false true v_k (.int .i64 1)) fun t29 => 
   J_1 t29 w_4) (World.drew w_3)) (World.drew w_3)) (World.drew w_3)) (World.drew w_3))
    (pur Tryz.prog (binS .add 3 false true v_i (.int .i64 1)) fun t13 => 
  J t13 w_3)) [(.int .i64 0)] w_2) w_1) w_1) w_1)
   (Q (.tuple #[]) w_1)) w_1) [(.int .i64 0)] w
theorem eq130 (v_b : Value) (Q : Value → World → Prop) (w : World) : semF Tryz.prog 130 [v_b] Q w = S130 v_b Q w := by kernel_rfl
theorem ref130 {v_b : Value} {Q : Value → World → Prop} {w : World} (h : S130 v_b Q w) : callS Tryz.prog 130 #[v_b] Q w :=
  callS_of mix (fun a w => Tryz.call130 a w) (by kernel_rfl) (by rw [eq130]; exact h)
-- (*commons/commonsbook.Book).putParts
def S131 (v_b : Value) (Q : Value → World → Prop) (w : World) : Prop :=
 lp 1 (fun J => fun v_i w_1 => ∀ _j : Fr, 
  pur Tryz.prog (nilV v_b) fun t7 => 
  pur Tryz.prog (Instr.fieldAt 51 t7 24) fun t8 => 
  rd Tryz.prog (Instr.loadAt 47 t8) (fun t9 => 
  pur Tryz.prog (Builtin.len_ #[47] 3 #[t9]) fun t10 => 
  pur Tryz.prog (binS .lss 3 false false v_i t10) fun t11 => 
  condS t11
   (pur Tryz.prog (nilV v_b) fun t16 => 
  pur Tryz.prog (Instr.fieldAt 51 t16 24) fun t17 => 
  rd Tryz.prog (Instr.loadAt 47 t17) (fun t18 => 
  pur Tryz.prog (Instr.indexAt 47 t18 v_i) fun t20 => 
  rd Tryz.prog (Instr.loadAt 93 t20) (fun t21 => 
  pur Tryz.prog (Builtin.len_ #[93] 3 #[t21]) fun t22 => 
  callS Tryz.prog 220 #[v_i, (.int .i64 0), t22] (fun t23 w_2 => 
  lp 1 (fun J_1 => fun v_k w_3 => ∀ _j : Fr, 
   pur Tryz.prog (Builtin.len_ #[93] 3 #[t23]) fun t26 => 
   pur Tryz.prog (binS .lss 3 false false v_k t26) fun t27 => 
   condS t27
    (pur Tryz.prog (nilV v_b) fun t31 => 
   pur Tryz.prog (Instr.fieldAt 51 t31 24) fun t32 => 
   rd Tryz.prog (Instr.loadAt 47 t32) (fun t33 => 
   pur Tryz.prog (Instr.indexAt 47 t33 v_i) fun t35 => 
   rd Tryz.prog (Instr.loadAt 93 t35) (fun t36 => 
   pur Tryz.prog (Instr.indexAt 93 t23 v_k) fun t40 => 
   rd Tryz.prog (Instr.loadAt 201 t40) (fun t41 => 
   pur Tryz.prog (Instr.indexAt 93 t36 v_k) fun t42 => 
   act Tryz.prog (thenU (Instr.storeAt 201 t42 t41)) (fun _ w_4 => 
   pur Tryz.prog (binS .add 3 false true v_k (.int .i64 1)) fun t29 => 
   J_1 t29 w_4) (World.drew w_3)) (World.drew w_3)) (World.drew w_3)) (World.drew w_3))
    (pur Tryz.prog (binS .add 3 false true v_i (.int .i64 1)) fun t13 => 
  J t13 w_3)) [(.int .i64 0)] w_2) w_1) w_1) w_1)
   (Q (.tuple #[]) w_1)) w_1) [(.int .i64 0)] w
theorem eq131 (v_b : Value) (Q : Value → World → Prop) (w : World) : semF Tryz.prog 131 [v_b] Q w = S131 v_b Q w := by kernel_rfl
theorem ref131 {v_b : Value} {Q : Value → World → Prop} {w : World} (h : S131 v_b Q w) : callS Tryz.prog 131 #[v_b] Q w :=
  callS_of mix (fun a w => Tryz.call131 a w) (by kernel_rfl) (by rw [eq131]; exact h)
-- (*commons/commonsbook.Book).growTexts
def S132 (v_b : Value) (Q : Value → World → Prop) (w : World) : Prop :=
 lp 2 (fun J => fun v_out v_i w_1 => ∀ _j : Fr, 
  pur Tryz.prog (nilV v_b) fun t9 => 
  pur Tryz.prog (Instr.fieldAt 51 t9 0) fun t10 => 
  rd Tryz.prog (Instr.loadAt 35 t10) (fun t11 => 
  pur Tryz.prog (Builtin.len_ #[35] 3 #[t11]) fun t12 => 
  pur Tryz.prog (binS .lss 3 false false v_i t12) fun t13 => 
  condS t13
   (pur Tryz.prog (nilV v_b) fun t17 => 
  pur Tryz.prog (Instr.fieldAt 51 t17 0) fun t18 => 
  rd Tryz.prog (Instr.loadAt 35 t18) (fun t19 => 
  pur Tryz.prog (Instr.indexAt 35 t19 v_i) fun t21 => 
  rd Tryz.prog (Instr.loadAt 220 t21) (fun t22 => 
  lp 2 (fun J_1 => fun v_l v_n w_2 => ∀ _j : Fr, 
   pur Tryz.prog (binS .lss 3 false true v_n (.int .i64 12)) fun t24 => 
   condS t24
    (pur Tryz.prog (Builtin.len_ #[220] 3 #[v_l]) fun t30 => 
   callS Tryz.prog 209 #[v_i, t30, (.int .i64 1)] (fun t31 w_3 => 
   act Tryz.prog (Builtin.append_ #[220, 220] 220 #[v_l, t31]) (fun t32 w_4 => 
   pur Tryz.prog (binS .add 3 false true v_n (.int .i64 1)) fun t26 => 
   J_1 t32 t26 w_4) w_3) w_2)
    (pur Tryz.prog (Builtin.len_ #[220] 3 #[v_l]) fun t37 => 
  callS Tryz.prog 209 #[v_i, t37, (.int .i64 60)] (fun t38 w_5 => 
  act Tryz.prog (Builtin.append_ #[220, 220] 220 #[v_l, t38]) (fun t39 w_6 => 
  act Tryz.prog (Instr.buildSlice 35 1 #[(0, t39)]) (fun t40 w_7 => 
  act Tryz.prog (Builtin.append_ #[35, 35] 35 #[v_out, t40]) (fun t41 w_8 => 
  pur Tryz.prog (binS .add 3 false true v_i (.int .i64 1)) fun t15 => 
  J t41 t15 w_8) w_7) w_6) w_5) w_2)) [t22, (.int .i64 0)] w_1) w_1) w_1)
   (Q v_out w_1)) w_1) [(.slice none 0 0), (.int .i64 0)] w
theorem eq132 (v_b : Value) (Q : Value → World → Prop) (w : World) : semF Tryz.prog 132 [v_b] Q w = S132 v_b Q w := by kernel_rfl
theorem ref132 {v_b : Value} {Q : Value → World → Prop} {w : World} (h : S132 v_b Q w) : callS Tryz.prog 132 #[v_b] Q w :=
  callS_of mix (fun a w => Tryz.call132 a w) (by kernel_rfl) (by rw [eq132]; exact h)
-- (*commons/commonsbook.Book).growInts
def S133 (v_b : Value) (Q : Value → World → Prop) (w : World) : Prop :=
 lp 2 (fun J => fun v_out v_i w_1 => ∀ _j : Fr, 
  pur Tryz.prog (nilV v_b) fun t9 => 
  pur Tryz.prog (Instr.fieldAt 51 t9 2) fun t10 => 
  rd Tryz.prog (Instr.loadAt 36 t10) (fun t11 => 
  pur Tryz.prog (Builtin.len_ #[36] 3 #[t11]) fun t12 => 
  pur Tryz.prog (binS .lss 3 false false v_i t12) fun t13 => 
  condS t13
   (pur Tryz.prog (nilV v_b) fun t17 => 
  pur Tryz.prog (Instr.fieldAt 51 t17 2) fun t18 => 
  rd Tryz.prog (Instr.loadAt 36 t18) (fun t19 => 
  pur Tryz.prog (Instr.indexAt 36 t19 v_i) fun t21 => 
  rd Tryz.prog (Instr.loadAt 64 t21) (fun t22 => 
  lp 2 (fun J_1 => fun v_l v_n w_2 => ∀ _j : Fr, 
   pur Tryz.prog (binS .lss 3 false true v_n (.int .i64 12)) fun t24 => 
   condS t24
    (pur Tryz.prog (Builtin.len_ #[64] 3 #[v_l]) fun t30 => 
   callS Tryz.prog 210 #[v_i, t30, (.int .i64 1)] (fun t31 w_3 => 
   act Tryz.prog (Builtin.append_ #[64, 64] 64 #[v_l, t31]) (fun t32 w_4 => 
   pur Tryz.prog (binS .add 3 false true v_n (.int .i64 1)) fun t26 => 
   J_1 t32 t26 w_4) w_3) w_2)
    (pur Tryz.prog (Builtin.len_ #[64] 3 #[v_l]) fun t37 => 
  callS Tryz.prog 210 #[v_i, t37, (.int .i64 60)] (fun t38 w_5 => 
  act Tryz.prog (Builtin.append_ #[64, 64] 64 #[v_l, t38]) (fun t39 w_6 => 
  act Tryz.prog (Instr.buildSlice 36 1 #[(0, t39)]) (fun t40 w_7 => 
  act Tryz.prog (Builtin.append_ #[36, 36] 36 #[v_out, t40]) (fun t41 w_8 => 
  pur Tryz.prog (binS .add 3 false true v_i (.int .i64 1)) fun t15 => 
  J t41 t15 w_8) w_7) w_6) w_5) w_2)) [t22, (.int .i64 0)] w_1) w_1) w_1)
   (Q v_out w_1)) w_1) [(.slice none 0 0), (.int .i64 0)] w
theorem eq133 (v_b : Value) (Q : Value → World → Prop) (w : World) : semF Tryz.prog 133 [v_b] Q w = S133 v_b Q w := by kernel_rfl
theorem ref133 {v_b : Value} {Q : Value → World → Prop} {w : World} (h : S133 v_b Q w) : callS Tryz.prog 133 #[v_b] Q w :=
  callS_of mix (fun a w => Tryz.call133 a w) (by kernel_rfl) (by rw [eq133]; exact h)
-- (*commons/commonsbook.Book).growNums
def S134 (v_b : Value) (Q : Value → World → Prop) (w : World) : Prop :=
 lp 2 (fun J => fun v_out v_i w_1 => ∀ _j : Fr, 
  pur Tryz.prog (nilV v_b) fun t9 => 
  pur Tryz.prog (Instr.fieldAt 51 t9 4) fun t10 => 
  rd Tryz.prog (Instr.loadAt 37 t10) (fun t11 => 
  pur Tryz.prog (Builtin.len_ #[37] 3 #[t11]) fun t12 => 
  pur Tryz.prog (binS .lss 3 false false v_i t12) fun t13 => 
  condS t13
   (pur Tryz.prog (nilV v_b) fun t17 => 
  pur Tryz.prog (Instr.fieldAt 51 t17 4) fun t18 => 
  rd Tryz.prog (Instr.loadAt 37 t18) (fun t19 => 
  pur Tryz.prog (Instr.indexAt 37 t19 v_i) fun t21 => 
  rd Tryz.prog (Instr.loadAt 222 t21) (fun t22 => 
  lp 2 (fun J_1 => fun v_l v_n w_2 => ∀ _j : Fr, 
   pur Tryz.prog (binS .lss 3 false true v_n (.int .i64 12)) fun t24 => 
   condS t24
    (pur Tryz.prog (Builtin.len_ #[222] 3 #[v_l]) fun t30 => 
   callS Tryz.prog 211 #[v_i, t30, (.int .i64 1)] (fun t31 w_3 => 
   act Tryz.prog (Builtin.append_ #[222, 222] 222 #[v_l, t31]) (fun t32 w_4 => 
   pur Tryz.prog (binS .add 3 false true v_n (.int .i64 1)) fun t26 => 
   J_1 t32 t26 w_4) w_3) w_2)
    (pur Tryz.prog (Builtin.len_ #[222] 3 #[v_l]) fun t37 => 
  callS Tryz.prog 211 #[v_i, t37, (.int .i64 60)] (fun t38 w_5 => 
  act Tryz.prog (Builtin.append_ #[222, 222] 222 #[v_l, t38]) (fun t39 w_6 => 
  act Tryz.prog (Instr.buildSlice 37 1 #[(0, t39)]) (fun t40 w_7 => 
  act Tryz.prog (Builtin.append_ #[37, 37] 37 #[v_out, t40]) (fun t41 w_8 => 
  pur Tryz.prog (binS .add 3 false true v_i (.int .i64 1)) fun t15 => 
  J t41 t15 w_8) w_7) w_6) w_5) w_2)) [t22, (.int .i64 0)] w_1) w_1) w_1)
   (Q v_out w_1)) w_1) [(.slice none 0 0), (.int .i64 0)] w
theorem eq134 (v_b : Value) (Q : Value → World → Prop) (w : World) : semF Tryz.prog 134 [v_b] Q w = S134 v_b Q w := by kernel_rfl
theorem ref134 {v_b : Value} {Q : Value → World → Prop} {w : World} (h : S134 v_b Q w) : callS Tryz.prog 134 #[v_b] Q w :=
  callS_of mix (fun a w => Tryz.call134 a w) (by kernel_rfl) (by rw [eq134]; exact h)
-- (*commons/commonsbook.Book).growSpans
def S135 (v_b : Value) (Q : Value → World → Prop) (w : World) : Prop :=
 lp 2 (fun J => fun v_out v_i w_1 => ∀ _j : Fr, 
  pur Tryz.prog (nilV v_b) fun t9 => 
  pur Tryz.prog (Instr.fieldAt 51 t9 6) fun t10 => 
  rd Tryz.prog (Instr.loadAt 38 t10) (fun t11 => 
  pur Tryz.prog (Builtin.len_ #[38] 3 #[t11]) fun t12 => 
  pur Tryz.prog (binS .lss 3 false false v_i t12) fun t13 => 
  condS t13
   (pur Tryz.prog (nilV v_b) fun t17 => 
  pur Tryz.prog (Instr.fieldAt 51 t17 6) fun t18 => 
  rd Tryz.prog (Instr.loadAt 38 t18) (fun t19 => 
  pur Tryz.prog (Instr.indexAt 38 t19 v_i) fun t21 => 
  rd Tryz.prog (Instr.loadAt 70 t21) (fun t22 => 
  lp 2 (fun J_1 => fun v_l v_n w_2 => ∀ _j : Fr, 
   pur Tryz.prog (binS .lss 3 false true v_n (.int .i64 12)) fun t24 => 
   condS t24
    (pur Tryz.prog (Builtin.len_ #[70] 3 #[v_l]) fun t30 => 
   callS Tryz.prog 212 #[v_i, t30, (.int .i64 1)] (fun t31 w_3 => 
   act Tryz.prog (Builtin.append_ #[70, 70] 70 #[v_l, t31]) (fun t32 w_4 => 
   pur Tryz.prog (binS .add 3 false true v_n (.int .i64 1)) fun t26 => 
   J_1 t32 t26 w_4) w_3) w_2)
    (pur Tryz.prog (Builtin.len_ #[70] 3 #[v_l]) fun t37 => 
  callS Tryz.prog 212 #[v_i, t37, (.int .i64 60)] (fun t38 w_5 => 
  act Tryz.prog (Builtin.append_ #[70, 70] 70 #[v_l, t38]) (fun t39 w_6 => 
  act Tryz.prog (Instr.buildSlice 38 1 #[(0, t39)]) (fun t40 w_7 => 
  act Tryz.prog (Builtin.append_ #[38, 38] 38 #[v_out, t40]) (fun t41 w_8 => 
  pur Tryz.prog (binS .add 3 false true v_i (.int .i64 1)) fun t15 => 
  J t41 t15 w_8) w_7) w_6) w_5) w_2)) [t22, (.int .i64 0)] w_1) w_1) w_1)
   (Q v_out w_1)) w_1) [(.slice none 0 0), (.int .i64 0)] w
theorem eq135 (v_b : Value) (Q : Value → World → Prop) (w : World) : semF Tryz.prog 135 [v_b] Q w = S135 v_b Q w := by kernel_rfl
theorem ref135 {v_b : Value} {Q : Value → World → Prop} {w : World} (h : S135 v_b Q w) : callS Tryz.prog 135 #[v_b] Q w :=
  callS_of mix (fun a w => Tryz.call135 a w) (by kernel_rfl) (by rw [eq135]; exact h)
-- (*commons/commonsbook.Book).growLocks
def S136 (v_b : Value) (Q : Value → World → Prop) (w : World) : Prop :=
 lp 2 (fun J => fun v_out v_i w_1 => ∀ _j : Fr, 
  pur Tryz.prog (nilV v_b) fun t9 => 
  pur Tryz.prog (Instr.fieldAt 51 t9 8) fun t10 => 
  rd Tryz.prog (Instr.loadAt 39 t10) (fun t11 => 
  pur Tryz.prog (Builtin.len_ #[39] 3 #[t11]) fun t12 => 
  pur Tryz.prog (binS .lss 3 false false v_i t12) fun t13 => 
  condS t13
   (pur Tryz.prog (nilV v_b) fun t17 => 
  pur Tryz.prog (Instr.fieldAt 51 t17 8) fun t18 => 
  rd Tryz.prog (Instr.loadAt 39 t18) (fun t19 => 
  pur Tryz.prog (Instr.indexAt 39 t19 v_i) fun t21 => 
  rd Tryz.prog (Instr.loadAt 109 t21) (fun t22 => 
  lp 2 (fun J_1 => fun v_l v_n w_2 => ∀ _j : Fr, 
   pur Tryz.prog (binS .lss 3 false true v_n (.int .i64 12)) fun t24 => 
   condS t24
    (pur Tryz.prog (Builtin.len_ #[109] 3 #[v_l]) fun t30 => 
   callS Tryz.prog 213 #[v_i, t30, (.int .i64 1)] (fun t31 w_3 => 
   act Tryz.prog (Builtin.append_ #[109, 109] 109 #[v_l, t31]) (fun t32 w_4 => 
   pur Tryz.prog (binS .add 3 false true v_n (.int .i64 1)) fun t26 => 
   J_1 t32 t26 w_4) w_3) w_2)
    (pur Tryz.prog (Builtin.len_ #[109] 3 #[v_l]) fun t37 => 
  callS Tryz.prog 213 #[v_i, t37, (.int .i64 60)] (fun t38 w_5 => 
  act Tryz.prog (Builtin.append_ #[109, 109] 109 #[v_l, t38]) (fun t39 w_6 => 
  act Tryz.prog (Instr.buildSlice 39 1 #[(0, t39)]) (fun t40 w_7 => 
  act Tryz.prog (Builtin.append_ #[39, 39] 39 #[v_out, t40]) (fun t41 w_8 => 
  pur Tryz.prog (binS .add 3 false true v_i (.int .i64 1)) fun t15 => 
  J t41 t15 w_8) w_7) w_6) w_5) w_2)) [t22, (.int .i64 0)] w_1) w_1) w_1)
   (Q v_out w_1)) w_1) [(.slice none 0 0), (.int .i64 0)] w
theorem eq136 (v_b : Value) (Q : Value → World → Prop) (w : World) : semF Tryz.prog 136 [v_b] Q w = S136 v_b Q w := by kernel_rfl
theorem ref136 {v_b : Value} {Q : Value → World → Prop} {w : World} (h : S136 v_b Q w) : callS Tryz.prog 136 #[v_b] Q w :=
  callS_of mix (fun a w => Tryz.call136 a w) (by kernel_rfl) (by rw [eq136]; exact h)
-- (*commons/commonsbook.Book).growImages
def S137 (v_b : Value) (Q : Value → World → Prop) (w : World) : Prop :=
 lp 2 (fun J => fun v_out v_i w_1 => ∀ _j : Fr, 
  pur Tryz.prog (nilV v_b) fun t9 => 
  pur Tryz.prog (Instr.fieldAt 51 t9 10) fun t10 => 
  rd Tryz.prog (Instr.loadAt 40 t10) (fun t11 => 
  pur Tryz.prog (Builtin.len_ #[40] 3 #[t11]) fun t12 => 
  pur Tryz.prog (binS .lss 3 false false v_i t12) fun t13 => 
  condS t13
   (pur Tryz.prog (nilV v_b) fun t17 => 
  pur Tryz.prog (Instr.fieldAt 51 t17 10) fun t18 => 
  rd Tryz.prog (Instr.loadAt 40 t18) (fun t19 => 
  pur Tryz.prog (Instr.indexAt 40 t19 v_i) fun t21 => 
  rd Tryz.prog (Instr.loadAt 131 t21) (fun t22 => 
  lp 2 (fun J_1 => fun v_l v_n w_2 => ∀ _j : Fr, 
   pur Tryz.prog (binS .lss 3 false true v_n (.int .i64 12)) fun t24 => 
   condS t24
    (pur Tryz.prog (Builtin.len_ #[131] 3 #[v_l]) fun t30 => 
   callS Tryz.prog 214 #[v_i, t30, (.int .i64 1)] (fun t31 w_3 => 
   act Tryz.prog (Builtin.append_ #[131, 131] 131 #[v_l, t31]) (fun t32 w_4 => 
   pur Tryz.prog (binS .add 3 false true v_n (.int .i64 1)) fun t26 => 
   J_1 t32 t26 w_4) w_3) w_2)
    (pur Tryz.prog (Builtin.len_ #[131] 3 #[v_l]) fun t37 => 
  callS Tryz.prog 214 #[v_i, t37, (.int .i64 60)] (fun t38 w_5 => 
  act Tryz.prog (Builtin.append_ #[131, 131] 131 #[v_l, t38]) (fun t39 w_6 => 
  act Tryz.prog (Instr.buildSlice 40 1 #[(0, t39)]) (fun t40 w_7 => 
  act Tryz.prog (Builtin.append_ #[40, 40] 40 #[v_out, t40]) (fun t41 w_8 => 
  pur Tryz.prog (binS .add 3 false true v_i (.int .i64 1)) fun t15 => 
  J t41 t15 w_8) w_7) w_6) w_5) w_2)) [t22, (.int .i64 0)] w_1) w_1) w_1)
   (Q v_out w_1)) w_1) [(.slice none 0 0), (.int .i64 0)] w
theorem eq137 (v_b : Value) (Q : Value → World → Prop) (w : World) : semF Tryz.prog 137 [v_b] Q w = S137 v_b Q w := by kernel_rfl
theorem ref137 {v_b : Value} {Q : Value → World → Prop} {w : World} (h : S137 v_b Q w) : callS Tryz.prog 137 #[v_b] Q w :=
  callS_of mix (fun a w => Tryz.call137 a w) (by kernel_rfl) (by rw [eq137]; exact h)
-- (*commons/commonsbook.Book).growRecords
def S138 (v_b : Value) (Q : Value → World → Prop) (w : World) : Prop :=
 lp 2 (fun J => fun v_out v_i w_1 => ∀ _j : Fr, 
  pur Tryz.prog (nilV v_b) fun t9 => 
  pur Tryz.prog (Instr.fieldAt 51 t9 12) fun t10 => 
  rd Tryz.prog (Instr.loadAt 41 t10) (fun t11 => 
  pur Tryz.prog (Builtin.len_ #[41] 3 #[t11]) fun t12 => 
  pur Tryz.prog (binS .lss 3 false false v_i t12) fun t13 => 
  condS t13
   (pur Tryz.prog (nilV v_b) fun t17 => 
  pur Tryz.prog (Instr.fieldAt 51 t17 12) fun t18 => 
  rd Tryz.prog (Instr.loadAt 41 t18) (fun t19 => 
  pur Tryz.prog (Instr.indexAt 41 t19 v_i) fun t21 => 
  rd Tryz.prog (Instr.loadAt 224 t21) (fun t22 => 
  lp 2 (fun J_1 => fun v_l v_n w_2 => ∀ _j : Fr, 
   pur Tryz.prog (binS .lss 3 false true v_n (.int .i64 12)) fun t24 => 
   condS t24
    (pur Tryz.prog (Builtin.len_ #[224] 3 #[v_l]) fun t30 => 
   callS Tryz.prog 206 #[v_i, t30, (.int .i64 1)] (fun t31 w_3 => 
   act Tryz.prog (Builtin.append_ #[224, 224] 224 #[v_l, t31]) (fun t32 w_4 => 
   pur Tryz.prog (binS .add 3 false true v_n (.int .i64 1)) fun t26 => 
   J_1 t32 t26 w_4) w_3) w_2)
    (pur Tryz.prog (Builtin.len_ #[224] 3 #[v_l]) fun t37 => 
  callS Tryz.prog 206 #[v_i, t37, (.int .i64 60)] (fun t38 w_5 => 
  act Tryz.prog (Builtin.append_ #[224, 224] 224 #[v_l, t38]) (fun t39 w_6 => 
  act Tryz.prog (Instr.buildSlice 41 1 #[(0, t39)]) (fun t40 w_7 => 
  act Tryz.prog (Builtin.append_ #[41, 41] 41 #[v_out, t40]) (fun t41 w_8 => 
  pur Tryz.prog (binS .add 3 false true v_i (.int .i64 1)) fun t15 => 
  J t41 t15 w_8) w_7) w_6) w_5) w_2)) [t22, (.int .i64 0)] w_1) w_1) w_1)
   (Q v_out w_1)) w_1) [(.slice none 0 0), (.int .i64 0)] w
theorem eq138 (v_b : Value) (Q : Value → World → Prop) (w : World) : semF Tryz.prog 138 [v_b] Q w = S138 v_b Q w := by kernel_rfl
theorem ref138 {v_b : Value} {Q : Value → World → Prop} {w : World} (h : S138 v_b Q w) : callS Tryz.prog 138 #[v_b] Q w :=
  callS_of mix (fun a w => Tryz.call138 a w) (by kernel_rfl) (by rw [eq138]; exact h)
-- (*commons/commonsbook.Book).growPackets
def S139 (v_b : Value) (Q : Value → World → Prop) (w : World) : Prop :=
 lp 2 (fun J => fun v_out v_i w_1 => ∀ _j : Fr, 
  pur Tryz.prog (nilV v_b) fun t9 => 
  pur Tryz.prog (Instr.fieldAt 51 t9 14) fun t10 => 
  rd Tryz.prog (Instr.loadAt 42 t10) (fun t11 => 
  pur Tryz.prog (Builtin.len_ #[42] 3 #[t11]) fun t12 => 
  pur Tryz.prog (binS .lss 3 false false v_i t12) fun t13 => 
  condS t13
   (pur Tryz.prog (nilV v_b) fun t17 => 
  pur Tryz.prog (Instr.fieldAt 51 t17 14) fun t18 => 
  rd Tryz.prog (Instr.loadAt 42 t18) (fun t19 => 
  pur Tryz.prog (Instr.indexAt 42 t19 v_i) fun t21 => 
  rd Tryz.prog (Instr.loadAt 226 t21) (fun t22 => 
  lp 2 (fun J_1 => fun v_l v_n w_2 => ∀ _j : Fr, 
   pur Tryz.prog (binS .lss 3 false true v_n (.int .i64 12)) fun t24 => 
   condS t24
    (pur Tryz.prog (Builtin.len_ #[226] 3 #[v_l]) fun t30 => 
   callS Tryz.prog 215 #[v_i, t30, (.int .i64 1)] (fun t31 w_3 => 
   act Tryz.prog (Builtin.append_ #[226, 226] 226 #[v_l, t31]) (fun t32 w_4 => 
   pur Tryz.prog (binS .add 3 false true v_n (.int .i64 1)) fun t26 => 
   J_1 t32 t26 w_4) w_3) w_2)
    (pur Tryz.prog (Builtin.len_ #[226] 3 #[v_l]) fun t37 => 
  callS Tryz.prog 215 #[v_i, t37, (.int .i64 60)] (fun t38 w_5 => 
  act Tryz.prog (Builtin.append_ #[226, 226] 226 #[v_l, t38]) (fun t39 w_6 => 
  act Tryz.prog (Instr.buildSlice 42 1 #[(0, t39)]) (fun t40 w_7 => 
  act Tryz.prog (Builtin.append_ #[42, 42] 42 #[v_out, t40]) (fun t41 w_8 => 
  pur Tryz.prog (binS .add 3 false true v_i (.int .i64 1)) fun t15 => 
  J t41 t15 w_8) w_7) w_6) w_5) w_2)) [t22, (.int .i64 0)] w_1) w_1) w_1)
   (Q v_out w_1)) w_1) [(.slice none 0 0), (.int .i64 0)] w
theorem eq139 (v_b : Value) (Q : Value → World → Prop) (w : World) : semF Tryz.prog 139 [v_b] Q w = S139 v_b Q w := by kernel_rfl
theorem ref139 {v_b : Value} {Q : Value → World → Prop} {w : World} (h : S139 v_b Q w) : callS Tryz.prog 139 #[v_b] Q w :=
  callS_of mix (fun a w => Tryz.call139 a w) (by kernel_rfl) (by rw [eq139]; exact h)
-- (*commons/commonsbook.Book).growFrames
def S140 (v_b : Value) (Q : Value → World → Prop) (w : World) : Prop :=
 lp 2 (fun J => fun v_out v_i w_1 => ∀ _j : Fr, 
  pur Tryz.prog (nilV v_b) fun t9 => 
  pur Tryz.prog (Instr.fieldAt 51 t9 16) fun t10 => 
  rd Tryz.prog (Instr.loadAt 43 t10) (fun t11 => 
  pur Tryz.prog (Builtin.len_ #[43] 3 #[t11]) fun t12 => 
  pur Tryz.prog (binS .lss 3 false false v_i t12) fun t13 => 
  condS t13
   (pur Tryz.prog (nilV v_b) fun t17 => 
  pur Tryz.prog (Instr.fieldAt 51 t17 16) fun t18 => 
  rd Tryz.prog (Instr.loadAt 43 t18) (fun t19 => 
  pur Tryz.prog (Instr.indexAt 43 t19 v_i) fun t21 => 
  rd Tryz.prog (Instr.loadAt 228 t21) (fun t22 => 
  lp 2 (fun J_1 => fun v_l v_n w_2 => ∀ _j : Fr, 
   pur Tryz.prog (binS .lss 3 false true v_n (.int .i64 12)) fun t24 => 
   condS t24
    (pur Tryz.prog (Builtin.len_ #[228] 3 #[v_l]) fun t30 => 
   callS Tryz.prog 216 #[v_i, t30, (.int .i64 1)] (fun t31 w_3 => 
   act Tryz.prog (Builtin.append_ #[228, 228] 228 #[v_l, t31]) (fun t32 w_4 => 
   pur Tryz.prog (binS .add 3 false true v_n (.int .i64 1)) fun t26 => 
   J_1 t32 t26 w_4) w_3) w_2)
    (pur Tryz.prog (Builtin.len_ #[228] 3 #[v_l]) fun t37 => 
  callS Tryz.prog 216 #[v_i, t37, (.int .i64 60)] (fun t38 w_5 => 
  act Tryz.prog (Builtin.append_ #[228, 228] 228 #[v_l, t38]) (fun t39 w_6 => 
  act Tryz.prog (Instr.buildSlice 43 1 #[(0, t39)]) (fun t40 w_7 => 
  act Tryz.prog (Builtin.append_ #[43, 43] 43 #[v_out, t40]) (fun t41 w_8 => 
  pur Tryz.prog (binS .add 3 false true v_i (.int .i64 1)) fun t15 => 
  J t41 t15 w_8) w_7) w_6) w_5) w_2)) [t22, (.int .i64 0)] w_1) w_1) w_1)
   (Q v_out w_1)) w_1) [(.slice none 0 0), (.int .i64 0)] w
theorem eq140 (v_b : Value) (Q : Value → World → Prop) (w : World) : semF Tryz.prog 140 [v_b] Q w = S140 v_b Q w := by kernel_rfl
theorem ref140 {v_b : Value} {Q : Value → World → Prop} {w : World} (h : S140 v_b Q w) : callS Tryz.prog 140 #[v_b] Q w :=
  callS_of mix (fun a w => Tryz.call140 a w) (by kernel_rfl) (by rw [eq140]; exact h)
-- (*commons/commonsbook.Book).growWaits
def S141 (v_b : Value) (Q : Value → World → Prop) (w : World) : Prop :=
 lp 2 (fun J => fun v_out v_i w_1 => ∀ _j : Fr, 
  pur Tryz.prog (nilV v_b) fun t9 => 
  pur Tryz.prog (Instr.fieldAt 51 t9 18) fun t10 => 
  rd Tryz.prog (Instr.loadAt 44 t10) (fun t11 => 
  pur Tryz.prog (Builtin.len_ #[44] 3 #[t11]) fun t12 => 
  pur Tryz.prog (binS .lss 3 false false v_i t12) fun t13 => 
  condS t13
   (pur Tryz.prog (nilV v_b) fun t17 => 
  pur Tryz.prog (Instr.fieldAt 51 t17 18) fun t18 => 
  rd Tryz.prog (Instr.loadAt 44 t18) (fun t19 => 
  pur Tryz.prog (Instr.indexAt 44 t19 v_i) fun t21 => 
  rd Tryz.prog (Instr.loadAt 230 t21) (fun t22 => 
  lp 2 (fun J_1 => fun v_l v_n w_2 => ∀ _j : Fr, 
   pur Tryz.prog (binS .lss 3 false true v_n (.int .i64 12)) fun t24 => 
   condS t24
    (pur Tryz.prog (Builtin.len_ #[230] 3 #[v_l]) fun t30 => 
   callS Tryz.prog 217 #[v_i, t30, (.int .i64 1)] (fun t31 w_3 => 
   act Tryz.prog (Builtin.append_ #[230, 230] 230 #[v_l, t31]) (fun t32 w_4 => 
   pur Tryz.prog (binS .add 3 false true v_n (.int .i64 1)) fun t26 => 
   J_1 t32 t26 w_4) w_3) w_2)
    (pur Tryz.prog (Builtin.len_ #[230] 3 #[v_l]) fun t37 => 
  callS Tryz.prog 217 #[v_i, t37, (.int .i64 60)] (fun t38 w_5 => 
  act Tryz.prog (Builtin.append_ #[230, 230] 230 #[v_l, t38]) (fun t39 w_6 => 
  act Tryz.prog (Instr.buildSlice 44 1 #[(0, t39)]) (fun t40 w_7 => 
  act Tryz.prog (Builtin.append_ #[44, 44] 44 #[v_out, t40]) (fun t41 w_8 => 
  pur Tryz.prog (binS .add 3 false true v_i (.int .i64 1)) fun t15 => 
  J t41 t15 w_8) w_7) w_6) w_5) w_2)) [t22, (.int .i64 0)] w_1) w_1) w_1)
   (Q v_out w_1)) w_1) [(.slice none 0 0), (.int .i64 0)] w
theorem eq141 (v_b : Value) (Q : Value → World → Prop) (w : World) : semF Tryz.prog 141 [v_b] Q w = S141 v_b Q w := by kernel_rfl
theorem ref141 {v_b : Value} {Q : Value → World → Prop} {w : World} (h : S141 v_b Q w) : callS Tryz.prog 141 #[v_b] Q w :=
  callS_of mix (fun a w => Tryz.call141 a w) (by kernel_rfl) (by rw [eq141]; exact h)
-- (*commons/commonsbook.Book).growRevokes
def S142 (v_b : Value) (Q : Value → World → Prop) (w : World) : Prop :=
 lp 2 (fun J => fun v_out v_i w_1 => ∀ _j : Fr, 
  pur Tryz.prog (nilV v_b) fun t9 => 
  pur Tryz.prog (Instr.fieldAt 51 t9 20) fun t10 => 
  rd Tryz.prog (Instr.loadAt 45 t10) (fun t11 => 
  pur Tryz.prog (Builtin.len_ #[45] 3 #[t11]) fun t12 => 
  pur Tryz.prog (binS .lss 3 false false v_i t12) fun t13 => 
  condS t13
   (pur Tryz.prog (nilV v_b) fun t17 => 
  pur Tryz.prog (Instr.fieldAt 51 t17 20) fun t18 => 
  rd Tryz.prog (Instr.loadAt 45 t18) (fun t19 => 
  pur Tryz.prog (Instr.indexAt 45 t19 v_i) fun t21 => 
  rd Tryz.prog (Instr.loadAt 232 t21) (fun t22 => 
  lp 2 (fun J_1 => fun v_l v_n w_2 => ∀ _j : Fr, 
   pur Tryz.prog (binS .lss 3 false true v_n (.int .i64 12)) fun t24 => 
   condS t24
    (pur Tryz.prog (Builtin.len_ #[232] 3 #[v_l]) fun t30 => 
   callS Tryz.prog 218 #[v_i, t30, (.int .i64 1)] (fun t31 w_3 => 
   act Tryz.prog (Builtin.append_ #[232, 232] 232 #[v_l, t31]) (fun t32 w_4 => 
   pur Tryz.prog (binS .add 3 false true v_n (.int .i64 1)) fun t26 => 
   J_1 t32 t26 w_4) w_3) w_2)
    (pur Tryz.prog (Builtin.len_ #[232] 3 #[v_l]) fun t37 => 
  callS Tryz.prog 218 #[v_i, t37, (.int .i64 60)] (fun t38 w_5 => 
  act Tryz.prog (Builtin.append_ #[232, 232] 232 #[v_l, t38]) (fun t39 w_6 => 
  act Tryz.prog (Instr.buildSlice 45 1 #[(0, t39)]) (fun t40 w_7 => 
  act Tryz.prog (Builtin.append_ #[45, 45] 45 #[v_out, t40]) (fun t41 w_8 => 
  pur Tryz.prog (binS .add 3 false true v_i (.int .i64 1)) fun t15 => 
  J t41 t15 w_8) w_7) w_6) w_5) w_2)) [t22, (.int .i64 0)] w_1) w_1) w_1)
   (Q v_out w_1)) w_1) [(.slice none 0 0), (.int .i64 0)] w
theorem eq142 (v_b : Value) (Q : Value → World → Prop) (w : World) : semF Tryz.prog 142 [v_b] Q w = S142 v_b Q w := by kernel_rfl
theorem ref142 {v_b : Value} {Q : Value → World → Prop} {w : World} (h : S142 v_b Q w) : callS Tryz.prog 142 #[v_b] Q w :=
  callS_of mix (fun a w => Tryz.call142 a w) (by kernel_rfl) (by rw [eq142]; exact h)
-- (*commons/commonsbook.Book).growEntries
def S143 (v_b : Value) (Q : Value → World → Prop) (w : World) : Prop :=
 lp 2 (fun J => fun v_out v_i w_1 => ∀ _j : Fr, 
  pur Tryz.prog (nilV v_b) fun t9 => 
  pur Tryz.prog (Instr.fieldAt 51 t9 22) fun t10 => 
  rd Tryz.prog (Instr.loadAt 46 t10) (fun t11 => 
  pur Tryz.prog (Builtin.len_ #[46] 3 #[t11]) fun t12 => 
  pur Tryz.prog (binS .lss 3 false false v_i t12) fun t13 => 
  condS t13
   (pur Tryz.prog (nilV v_b) fun t17 => 
  pur Tryz.prog (Instr.fieldAt 51 t17 22) fun t18 => 
  rd Tryz.prog (Instr.loadAt 46 t18) (fun t19 => 
  pur Tryz.prog (Instr.indexAt 46 t19 v_i) fun t21 => 
  rd Tryz.prog (Instr.loadAt 234 t21) (fun t22 => 
  lp 2 (fun J_1 => fun v_l v_n w_2 => ∀ _j : Fr, 
   pur Tryz.prog (binS .lss 3 false true v_n (.int .i64 12)) fun t24 => 
   condS t24
    (pur Tryz.prog (Builtin.len_ #[234] 3 #[v_l]) fun t30 => 
   callS Tryz.prog 219 #[v_i, t30, (.int .i64 1)] (fun t31 w_3 => 
   act Tryz.prog (Builtin.append_ #[234, 234] 234 #[v_l, t31]) (fun t32 w_4 => 
   pur Tryz.prog (binS .add 3 false true v_n (.int .i64 1)) fun t26 => 
   J_1 t32 t26 w_4) w_3) w_2)
    (pur Tryz.prog (Builtin.len_ #[234] 3 #[v_l]) fun t37 => 
  callS Tryz.prog 219 #[v_i, t37, (.int .i64 60)] (fun t38 w_5 => 
  act Tryz.prog (Builtin.append_ #[234, 234] 234 #[v_l, t38]) (fun t39 w_6 => 
  act Tryz.prog (Instr.buildSlice 46 1 #[(0, t39)]) (fun t40 w_7 => 
  act Tryz.prog (Builtin.append_ #[46, 46] 46 #[v_out, t40]) (fun t41 w_8 => 
  pur Tryz.prog (binS .add 3 false true v_i (.int .i64 1)) fun t15 => 
  J t41 t15 w_8) w_7) w_6) w_5) w_2)) [t22, (.int .i64 0)] w_1) w_1) w_1)
   (Q v_out w_1)) w_1) [(.slice none 0 0), (.int .i64 0)] w
theorem eq143 (v_b : Value) (Q : Value → World → Prop) (w : World) : semF Tryz.prog 143 [v_b] Q w = S143 v_b Q w := by kernel_rfl
theorem ref143 {v_b : Value} {Q : Value → World → Prop} {w : World} (h : S143 v_b Q w) : callS Tryz.prog 143 #[v_b] Q w :=
  callS_of mix (fun a w => Tryz.call143 a w) (by kernel_rfl) (by rw [eq143]; exact h)
-- (*commons/commonsbook.Book).growParts
def S144 (v_b : Value) (Q : Value → World → Prop) (w : World) : Prop :=
 lp 2 (fun J => fun v_out v_i w_1 => ∀ _j : Fr, 
  pur Tryz.prog (nilV v_b) fun t9 => 
  pur Tryz.prog (Instr.fieldAt 51 t9 24) fun t10 => 
  rd Tryz.prog (Instr.loadAt 47 t10) (fun t11 => 
  pur Tryz.prog (Builtin.len_ #[47] 3 #[t11]) fun t12 => 
  pur Tryz.prog (binS .lss 3 false false v_i t12) fun t13 => 
  condS t13
   (pur Tryz.prog (nilV v_b) fun t17 => 
  pur Tryz.prog (Instr.fieldAt 51 t17 24) fun t18 => 
  rd Tryz.prog (Instr.loadAt 47 t18) (fun t19 => 
  pur Tryz.prog (Instr.indexAt 47 t19 v_i) fun t21 => 
  rd Tryz.prog (Instr.loadAt 93 t21) (fun t22 => 
  lp 2 (fun J_1 => fun v_l v_n w_2 => ∀ _j : Fr, 
   pur Tryz.prog (binS .lss 3 false true v_n (.int .i64 12)) fun t24 => 
   condS t24
    (pur Tryz.prog (Builtin.len_ #[93] 3 #[v_l]) fun t30 => 
   callS Tryz.prog 220 #[v_i, t30, (.int .i64 1)] (fun t31 w_3 => 
   act Tryz.prog (Builtin.append_ #[93, 93] 93 #[v_l, t31]) (fun t32 w_4 => 
   pur Tryz.prog (binS .add 3 false true v_n (.int .i64 1)) fun t26 => 
   J_1 t32 t26 w_4) w_3) w_2)
    (pur Tryz.prog (Builtin.len_ #[93] 3 #[v_l]) fun t37 => 
  callS Tryz.prog 220 #[v_i, t37, (.int .i64 60)] (fun t38 w_5 => 
  act Tryz.prog (Builtin.append_ #[93, 93] 93 #[v_l, t38]) (fun t39 w_6 => 
  act Tryz.prog (Instr.buildSlice 47 1 #[(0, t39)]) (fun t40 w_7 => 
  act Tryz.prog (Builtin.append_ #[47, 47] 47 #[v_out, t40]) (fun t41 w_8 => 
  pur Tryz.prog (binS .add 3 false true v_i (.int .i64 1)) fun t15 => 
  J t41 t15 w_8) w_7) w_6) w_5) w_2)) [t22, (.int .i64 0)] w_1) w_1) w_1)
   (Q v_out w_1)) w_1) [(.slice none 0 0), (.int .i64 0)] w
theorem eq144 (v_b : Value) (Q : Value → World → Prop) (w : World) : semF Tryz.prog 144 [v_b] Q w = S144 v_b Q w := by kernel_rfl
theorem ref144 {v_b : Value} {Q : Value → World → Prop} {w : World} (h : S144 v_b Q w) : callS Tryz.prog 144 #[v_b] Q w :=
  callS_of mix (fun a w => Tryz.call144 a w) (by kernel_rfl) (by rw [eq144]; exact h)
-- (*commons/commonsbook.Book).growMsgs
def S145 (v_b : Value) (Q : Value → World → Prop) (w : World) : Prop :=
 lp 2 (fun J => fun v_out v_i w_1 => ∀ _j : Fr, 
  pur Tryz.prog (nilV v_b) fun t9 => 
  pur Tryz.prog (Instr.fieldAt 51 t9 26) fun t10 => 
  rd Tryz.prog (Instr.loadAt 48 t10) (fun t11 => 
  pur Tryz.prog (Builtin.len_ #[48] 3 #[t11]) fun t12 => 
  pur Tryz.prog (binS .lss 3 false false v_i t12) fun t13 => 
  condS t13
   (pur Tryz.prog (nilV v_b) fun t17 => 
  pur Tryz.prog (Instr.fieldAt 51 t17 26) fun t18 => 
  rd Tryz.prog (Instr.loadAt 48 t18) (fun t19 => 
  pur Tryz.prog (Instr.indexAt 48 t19 v_i) fun t21 => 
  rd Tryz.prog (Instr.loadAt 237 t21) (fun t22 => 
  lp 2 (fun J_1 => fun v_l v_n w_2 => ∀ _j : Fr, 
   pur Tryz.prog (binS .lss 3 false true v_n (.int .i64 12)) fun t24 => 
   condS t24
    (pur Tryz.prog (Builtin.len_ #[237] 3 #[v_l]) fun t30 => 
   callS Tryz.prog 207 #[v_i, t30, (.int .i64 1)] (fun t31 w_3 => 
   act Tryz.prog (Builtin.append_ #[237, 237] 237 #[v_l, t31]) (fun t32 w_4 => 
   pur Tryz.prog (binS .add 3 false true v_n (.int .i64 1)) fun t26 => 
   J_1 t32 t26 w_4) w_3) w_2)
    (pur Tryz.prog (Builtin.len_ #[237] 3 #[v_l]) fun t37 => 
  callS Tryz.prog 207 #[v_i, t37, (.int .i64 60)] (fun t38 w_5 => 
  act Tryz.prog (Builtin.append_ #[237, 237] 237 #[v_l, t38]) (fun t39 w_6 => 
  act Tryz.prog (Instr.buildSlice 48 1 #[(0, t39)]) (fun t40 w_7 => 
  act Tryz.prog (Builtin.append_ #[48, 48] 48 #[v_out, t40]) (fun t41 w_8 => 
  pur Tryz.prog (binS .add 3 false true v_i (.int .i64 1)) fun t15 => 
  J t41 t15 w_8) w_7) w_6) w_5) w_2)) [t22, (.int .i64 0)] w_1) w_1) w_1)
   (Q v_out w_1)) w_1) [(.slice none 0 0), (.int .i64 0)] w
theorem eq145 (v_b : Value) (Q : Value → World → Prop) (w : World) : semF Tryz.prog 145 [v_b] Q w = S145 v_b Q w := by kernel_rfl
theorem ref145 {v_b : Value} {Q : Value → World → Prop} {w : World} (h : S145 v_b Q w) : callS Tryz.prog 145 #[v_b] Q w :=
  callS_of mix (fun a w => Tryz.call145 a w) (by kernel_rfl) (by rw [eq145]; exact h)
-- (*commons/commonsbook.Book).growSteps
def S146 (v_b : Value) (Q : Value → World → Prop) (w : World) : Prop :=
 lp 2 (fun J => fun v_out v_i w_1 => ∀ _j : Fr, 
  pur Tryz.prog (nilV v_b) fun t9 => 
  pur Tryz.prog (Instr.fieldAt 51 t9 28) fun t10 => 
  rd Tryz.prog (Instr.loadAt 49 t10) (fun t11 => 
  pur Tryz.prog (Builtin.len_ #[49] 3 #[t11]) fun t12 => 
  pur Tryz.prog (binS .lss 3 false false v_i t12) fun t13 => 
  condS t13
   (pur Tryz.prog (nilV v_b) fun t17 => 
  pur Tryz.prog (Instr.fieldAt 51 t17 28) fun t18 => 
  rd Tryz.prog (Instr.loadAt 49 t18) (fun t19 => 
  pur Tryz.prog (Instr.indexAt 49 t19 v_i) fun t21 => 
  rd Tryz.prog (Instr.loadAt 239 t21) (fun t22 => 
  lp 2 (fun J_1 => fun v_l v_n w_2 => ∀ _j : Fr, 
   pur Tryz.prog (binS .lss 3 false true v_n (.int .i64 12)) fun t24 => 
   condS t24
    (pur Tryz.prog (Builtin.len_ #[239] 3 #[v_l]) fun t30 => 
   callS Tryz.prog 208 #[v_i, t30, (.int .i64 1)] (fun t31 w_3 => 
   act Tryz.prog (Builtin.append_ #[239, 239] 239 #[v_l, t31]) (fun t32 w_4 => 
   pur Tryz.prog (binS .add 3 false true v_n (.int .i64 1)) fun t26 => 
   J_1 t32 t26 w_4) w_3) w_2)
    (pur Tryz.prog (Builtin.len_ #[239] 3 #[v_l]) fun t37 => 
  callS Tryz.prog 208 #[v_i, t37, (.int .i64 60)] (fun t38 w_5 => 
  act Tryz.prog (Builtin.append_ #[239, 239] 239 #[v_l, t38]) (fun t39 w_6 => 
  act Tryz.prog (Instr.buildSlice 49 1 #[(0, t39)]) (fun t40 w_7 => 
  act Tryz.prog (Builtin.append_ #[49, 49] 49 #[v_out, t40]) (fun t41 w_8 => 
  pur Tryz.prog (binS .add 3 false true v_i (.int .i64 1)) fun t15 => 
  J t41 t15 w_8) w_7) w_6) w_5) w_2)) [t22, (.int .i64 0)] w_1) w_1) w_1)
   (Q v_out w_1)) w_1) [(.slice none 0 0), (.int .i64 0)] w
theorem eq146 (v_b : Value) (Q : Value → World → Prop) (w : World) : semF Tryz.prog 146 [v_b] Q w = S146 v_b Q w := by kernel_rfl
theorem ref146 {v_b : Value} {Q : Value → World → Prop} {w : World} (h : S146 v_b Q w) : callS Tryz.prog 146 #[v_b] Q w :=
  callS_of mix (fun a w => Tryz.call146 a w) (by kernel_rfl) (by rw [eq146]; exact h)
-- commons/commonsbook.markedTexts
def S147 (v_l : Value) (Q : Value → World → Prop) (w : World) : Prop :=
 lp 1 (fun J => fun v_i w_1 => ∀ _j : Fr, 
  pur Tryz.prog (Builtin.len_ #[35] 3 #[v_l]) fun t6 => 
  pur Tryz.prog (binS .lss 3 false false v_i t6) fun t7 => 
  condS t7
   (∃ S : World → Prop, S (World.drew w_1) ∧ 
  pur Tryz.prog (Instr.indexAt 35 v_l v_i) fun t12 => 
  hld Tryz.prog S (Instr.loadAt 220 t12) fun t13 => 
  pur Tryz.prog (Instr.indexAt 35 v_l v_i) fun t17 => 
  hld Tryz.prog S (Instr.loadAt 220 t17) fun t18 => 
  pur Tryz.prog (Builtin.len_ #[220] 3 #[t18]) fun t19 => 
  callS Tryz.prog 209 #[v_i, (.int .i64 0), t19] (fun t20 w_2 => S w_2 ∧ 
  callS Tryz.prog 195 #[t13, t20] (fun t21 w_3 => S w_3 ∧ 
  pur Tryz.prog (Op.unary .not t21) fun t22 => 
  condS t22
   (Q (.bool false) w_3)
   (pur Tryz.prog (binS .add 3 false true v_i (.int .i64 1)) fun t9 => 
  J t9 w_3)) w_2) (World.drew w_1))
   (Q (.bool true) w_1)) [(.int .i64 0)] w
theorem eq147 (v_l : Value) (Q : Value → World → Prop) (w : World) : semF Tryz.prog 147 [v_l] Q w = S147 v_l Q w := by kernel_rfl
theorem ref147 {v_l : Value} {Q : Value → World → Prop} {w : World} (h : S147 v_l Q w) : callS Tryz.prog 147 #[v_l] Q w :=
  callS_of mix (fun a w => Tryz.call147 a w) (by kernel_rfl) (by rw [eq147]; exact h)
-- commons/commonsbook.markedInts
def S148 (v_l : Value) (Q : Value → World → Prop) (w : World) : Prop :=
 lp 1 (fun J => fun v_i w_1 => ∀ _j : Fr, 
  pur Tryz.prog (Builtin.len_ #[36] 3 #[v_l]) fun t6 => 
  pur Tryz.prog (binS .lss 3 false false v_i t6) fun t7 => 
  condS t7
   (∃ S : World → Prop, S (World.drew w_1) ∧ 
  pur Tryz.prog (Instr.indexAt 36 v_l v_i) fun t12 => 
  hld Tryz.prog S (Instr.loadAt 64 t12) fun t13 => 
  pur Tryz.prog (Instr.indexAt 36 v_l v_i) fun t17 => 
  hld Tryz.prog S (Instr.loadAt 64 t17) fun t18 => 
  pur Tryz.prog (Builtin.len_ #[64] 3 #[t18]) fun t19 => 
  callS Tryz.prog 210 #[v_i, (.int .i64 0), t19] (fun t20 w_2 => S w_2 ∧ 
  callS Tryz.prog 20 #[t13, t20] (fun t21 w_3 => S w_3 ∧ 
  pur Tryz.prog (Op.unary .not t21) fun t22 => 
  condS t22
   (Q (.bool false) w_3)
   (pur Tryz.prog (binS .add 3 false true v_i (.int .i64 1)) fun t9 => 
  J t9 w_3)) w_2) (World.drew w_1))
   (Q (.bool true) w_1)) [(.int .i64 0)] w
theorem eq148 (v_l : Value) (Q : Value → World → Prop) (w : World) : semF Tryz.prog 148 [v_l] Q w = S148 v_l Q w := by kernel_rfl
theorem ref148 {v_l : Value} {Q : Value → World → Prop} {w : World} (h : S148 v_l Q w) : callS Tryz.prog 148 #[v_l] Q w :=
  callS_of mix (fun a w => Tryz.call148 a w) (by kernel_rfl) (by rw [eq148]; exact h)
-- commons/commonsbook.markedNums
def S149 (v_l : Value) (Q : Value → World → Prop) (w : World) : Prop :=
 lp 1 (fun J => fun v_i w_1 => ∀ _j : Fr, 
  pur Tryz.prog (Builtin.len_ #[37] 3 #[v_l]) fun t6 => 
  pur Tryz.prog (binS .lss 3 false false v_i t6) fun t7 => 
  condS t7
   (∃ S : World → Prop, S (World.drew w_1) ∧ 
  pur Tryz.prog (Instr.indexAt 37 v_l v_i) fun t12 => 
  hld Tryz.prog S (Instr.loadAt 222 t12) fun t13 => 
  pur Tryz.prog (Instr.indexAt 37 v_l v_i) fun t17 => 
  hld Tryz.prog S (Instr.loadAt 222 t17) fun t18 => 
  pur Tryz.prog (Builtin.len_ #[222] 3 #[t18]) fun t19 => 
  callS Tryz.prog 211 #[v_i, (.int .i64 0), t19] (fun t20 w_2 => S w_2 ∧ 
  callS Tryz.prog 196 #[t13, t20] (fun t21 w_3 => S w_3 ∧ 
  pur Tryz.prog (Op.unary .not t21) fun t22 => 
  condS t22
   (Q (.bool false) w_3)
   (pur Tryz.prog (binS .add 3 false true v_i (.int .i64 1)) fun t9 => 
  J t9 w_3)) w_2) (World.drew w_1))
   (Q (.bool true) w_1)) [(.int .i64 0)] w
theorem eq149 (v_l : Value) (Q : Value → World → Prop) (w : World) : semF Tryz.prog 149 [v_l] Q w = S149 v_l Q w := by kernel_rfl
theorem ref149 {v_l : Value} {Q : Value → World → Prop} {w : World} (h : S149 v_l Q w) : callS Tryz.prog 149 #[v_l] Q w :=
  callS_of mix (fun a w => Tryz.call149 a w) (by kernel_rfl) (by rw [eq149]; exact h)
-- commons/commonsbook.markedSpans
def S150 (v_l : Value) (Q : Value → World → Prop) (w : World) : Prop :=
 lp 1 (fun J => fun v_i w_1 => ∀ _j : Fr, 
  pur Tryz.prog (Builtin.len_ #[38] 3 #[v_l]) fun t6 => 
  pur Tryz.prog (binS .lss 3 false false v_i t6) fun t7 => 
  condS t7
   (∃ S : World → Prop, S (World.drew w_1) ∧ 
  pur Tryz.prog (Instr.indexAt 38 v_l v_i) fun t12 => 
  hld Tryz.prog S (Instr.loadAt 70 t12) fun t13 => 
  pur Tryz.prog (Instr.indexAt 38 v_l v_i) fun t17 => 
  hld Tryz.prog S (Instr.loadAt 70 t17) fun t18 => 
  pur Tryz.prog (Builtin.len_ #[70] 3 #[t18]) fun t19 => 
  callS Tryz.prog 212 #[v_i, (.int .i64 0), t19] (fun t20 w_2 => S w_2 ∧ 
  callS Tryz.prog 38 #[t13, t20] (fun t21 w_3 => S w_3 ∧ 
  pur Tryz.prog (Op.unary .not t21) fun t22 => 
  condS t22
   (Q (.bool false) w_3)
   (pur Tryz.prog (binS .add 3 false true v_i (.int .i64 1)) fun t9 => 
  J t9 w_3)) w_2) (World.drew w_1))
   (Q (.bool true) w_1)) [(.int .i64 0)] w
theorem eq150 (v_l : Value) (Q : Value → World → Prop) (w : World) : semF Tryz.prog 150 [v_l] Q w = S150 v_l Q w := by kernel_rfl
theorem ref150 {v_l : Value} {Q : Value → World → Prop} {w : World} (h : S150 v_l Q w) : callS Tryz.prog 150 #[v_l] Q w :=
  callS_of mix (fun a w => Tryz.call150 a w) (by kernel_rfl) (by rw [eq150]; exact h)
-- commons/commonsbook.markedLocks
def S151 (v_l : Value) (Q : Value → World → Prop) (w : World) : Prop :=
 lp 1 (fun J => fun v_i w_1 => ∀ _j : Fr, 
  pur Tryz.prog (Builtin.len_ #[39] 3 #[v_l]) fun t6 => 
  pur Tryz.prog (binS .lss 3 false false v_i t6) fun t7 => 
  condS t7
   (∃ S : World → Prop, S (World.drew w_1) ∧ 
  pur Tryz.prog (Instr.indexAt 39 v_l v_i) fun t12 => 
  hld Tryz.prog S (Instr.loadAt 109 t12) fun t13 => 
  pur Tryz.prog (Instr.indexAt 39 v_l v_i) fun t17 => 
  hld Tryz.prog S (Instr.loadAt 109 t17) fun t18 => 
  pur Tryz.prog (Builtin.len_ #[109] 3 #[t18]) fun t19 => 
  callS Tryz.prog 213 #[v_i, (.int .i64 0), t19] (fun t20 w_2 => S w_2 ∧ 
  callS Tryz.prog 69 #[t13, t20] (fun t21 w_3 => S w_3 ∧ 
  pur Tryz.prog (Op.unary .not t21) fun t22 => 
  condS t22
   (Q (.bool false) w_3)
   (pur Tryz.prog (binS .add 3 false true v_i (.int .i64 1)) fun t9 => 
  J t9 w_3)) w_2) (World.drew w_1))
   (Q (.bool true) w_1)) [(.int .i64 0)] w
theorem eq151 (v_l : Value) (Q : Value → World → Prop) (w : World) : semF Tryz.prog 151 [v_l] Q w = S151 v_l Q w := by kernel_rfl
theorem ref151 {v_l : Value} {Q : Value → World → Prop} {w : World} (h : S151 v_l Q w) : callS Tryz.prog 151 #[v_l] Q w :=
  callS_of mix (fun a w => Tryz.call151 a w) (by kernel_rfl) (by rw [eq151]; exact h)
-- commons/commonsbook.markedImages
def S152 (v_l : Value) (Q : Value → World → Prop) (w : World) : Prop :=
 lp 1 (fun J => fun v_i w_1 => ∀ _j : Fr, 
  pur Tryz.prog (Builtin.len_ #[40] 3 #[v_l]) fun t6 => 
  pur Tryz.prog (binS .lss 3 false false v_i t6) fun t7 => 
  condS t7
   (∃ S : World → Prop, S (World.drew w_1) ∧ 
  pur Tryz.prog (Instr.indexAt 40 v_l v_i) fun t12 => 
  hld Tryz.prog S (Instr.loadAt 131 t12) fun t13 => 
  pur Tryz.prog (Instr.indexAt 40 v_l v_i) fun t17 => 
  hld Tryz.prog S (Instr.loadAt 131 t17) fun t18 => 
  pur Tryz.prog (Builtin.len_ #[131] 3 #[t18]) fun t19 => 
  callS Tryz.prog 214 #[v_i, (.int .i64 0), t19] (fun t20 w_2 => S w_2 ∧ 
  callS Tryz.prog 93 #[t13, t20] (fun t21 w_3 => S w_3 ∧ 
  pur Tryz.prog (Op.unary .not t21) fun t22 => 
  condS t22
   (Q (.bool false) w_3)
   (pur Tryz.prog (binS .add 3 false true v_i (.int .i64 1)) fun t9 => 
  J t9 w_3)) w_2) (World.drew w_1))
   (Q (.bool true) w_1)) [(.int .i64 0)] w
theorem eq152 (v_l : Value) (Q : Value → World → Prop) (w : World) : semF Tryz.prog 152 [v_l] Q w = S152 v_l Q w := by kernel_rfl
theorem ref152 {v_l : Value} {Q : Value → World → Prop} {w : World} (h : S152 v_l Q w) : callS Tryz.prog 152 #[v_l] Q w :=
  callS_of mix (fun a w => Tryz.call152 a w) (by kernel_rfl) (by rw [eq152]; exact h)
-- commons/commonsbook.markedRecords
def S153 (v_l : Value) (Q : Value → World → Prop) (w : World) : Prop :=
 lp 1 (fun J => fun v_i w_1 => ∀ _j : Fr, 
  pur Tryz.prog (Builtin.len_ #[41] 3 #[v_l]) fun t6 => 
  pur Tryz.prog (binS .lss 3 false false v_i t6) fun t7 => 
  condS t7
   (∃ S : World → Prop, S (World.drew w_1) ∧ 
  pur Tryz.prog (Instr.indexAt 41 v_l v_i) fun t12 => 
  hld Tryz.prog S (Instr.loadAt 224 t12) fun t13 => 
  pur Tryz.prog (Instr.indexAt 41 v_l v_i) fun t17 => 
  hld Tryz.prog S (Instr.loadAt 224 t17) fun t18 => 
  pur Tryz.prog (Builtin.len_ #[224] 3 #[t18]) fun t19 => 
  callS Tryz.prog 206 #[v_i, (.int .i64 0), t19] (fun t20 w_2 => S w_2 ∧ 
  callS Tryz.prog 197 #[t13, t20] (fun t21 w_3 => S w_3 ∧ 
  pur Tryz.prog (Op.unary .not t21) fun t22 => 
  condS t22
   (Q (.bool false) w_3)
   (pur Tryz.prog (binS .add 3 false true v_i (.int .i64 1)) fun t9 => 
  J t9 w_3)) w_2) (World.drew w_1))
   (Q (.bool true) w_1)) [(.int .i64 0)] w
theorem eq153 (v_l : Value) (Q : Value → World → Prop) (w : World) : semF Tryz.prog 153 [v_l] Q w = S153 v_l Q w := by kernel_rfl
theorem ref153 {v_l : Value} {Q : Value → World → Prop} {w : World} (h : S153 v_l Q w) : callS Tryz.prog 153 #[v_l] Q w :=
  callS_of mix (fun a w => Tryz.call153 a w) (by kernel_rfl) (by rw [eq153]; exact h)
-- commons/commonsbook.markedPackets
def S154 (v_l : Value) (Q : Value → World → Prop) (w : World) : Prop :=
 lp 1 (fun J => fun v_i w_1 => ∀ _j : Fr, 
  pur Tryz.prog (Builtin.len_ #[42] 3 #[v_l]) fun t6 => 
  pur Tryz.prog (binS .lss 3 false false v_i t6) fun t7 => 
  condS t7
   (∃ S : World → Prop, S (World.drew w_1) ∧ 
  pur Tryz.prog (Instr.indexAt 42 v_l v_i) fun t12 => 
  hld Tryz.prog S (Instr.loadAt 226 t12) fun t13 => 
  pur Tryz.prog (Instr.indexAt 42 v_l v_i) fun t17 => 
  hld Tryz.prog S (Instr.loadAt 226 t17) fun t18 => 
  pur Tryz.prog (Builtin.len_ #[226] 3 #[t18]) fun t19 => 
  callS Tryz.prog 215 #[v_i, (.int .i64 0), t19] (fun t20 w_2 => S w_2 ∧ 
  callS Tryz.prog 198 #[t13, t20] (fun t21 w_3 => S w_3 ∧ 
  pur Tryz.prog (Op.unary .not t21) fun t22 => 
  condS t22
   (Q (.bool false) w_3)
   (pur Tryz.prog (binS .add 3 false true v_i (.int .i64 1)) fun t9 => 
  J t9 w_3)) w_2) (World.drew w_1))
   (Q (.bool true) w_1)) [(.int .i64 0)] w
theorem eq154 (v_l : Value) (Q : Value → World → Prop) (w : World) : semF Tryz.prog 154 [v_l] Q w = S154 v_l Q w := by kernel_rfl
theorem ref154 {v_l : Value} {Q : Value → World → Prop} {w : World} (h : S154 v_l Q w) : callS Tryz.prog 154 #[v_l] Q w :=
  callS_of mix (fun a w => Tryz.call154 a w) (by kernel_rfl) (by rw [eq154]; exact h)
-- commons/commonsbook.markedFrames
def S155 (v_l : Value) (Q : Value → World → Prop) (w : World) : Prop :=
 lp 1 (fun J => fun v_i w_1 => ∀ _j : Fr, 
  pur Tryz.prog (Builtin.len_ #[43] 3 #[v_l]) fun t6 => 
  pur Tryz.prog (binS .lss 3 false false v_i t6) fun t7 => 
  condS t7
   (∃ S : World → Prop, S (World.drew w_1) ∧ 
  pur Tryz.prog (Instr.indexAt 43 v_l v_i) fun t12 => 
  hld Tryz.prog S (Instr.loadAt 228 t12) fun t13 => 
  pur Tryz.prog (Instr.indexAt 43 v_l v_i) fun t17 => 
  hld Tryz.prog S (Instr.loadAt 228 t17) fun t18 => 
  pur Tryz.prog (Builtin.len_ #[228] 3 #[t18]) fun t19 => 
  callS Tryz.prog 216 #[v_i, (.int .i64 0), t19] (fun t20 w_2 => S w_2 ∧ 
  callS Tryz.prog 199 #[t13, t20] (fun t21 w_3 => S w_3 ∧ 
  pur Tryz.prog (Op.unary .not t21) fun t22 => 
  condS t22
   (Q (.bool false) w_3)
   (pur Tryz.prog (binS .add 3 false true v_i (.int .i64 1)) fun t9 => 
  J t9 w_3)) w_2) (World.drew w_1))
   (Q (.bool true) w_1)) [(.int .i64 0)] w
theorem eq155 (v_l : Value) (Q : Value → World → Prop) (w : World) : semF Tryz.prog 155 [v_l] Q w = S155 v_l Q w := by kernel_rfl
theorem ref155 {v_l : Value} {Q : Value → World → Prop} {w : World} (h : S155 v_l Q w) : callS Tryz.prog 155 #[v_l] Q w :=
  callS_of mix (fun a w => Tryz.call155 a w) (by kernel_rfl) (by rw [eq155]; exact h)
-- commons/commonsbook.markedWaits
def S156 (v_l : Value) (Q : Value → World → Prop) (w : World) : Prop :=
 lp 1 (fun J => fun v_i w_1 => ∀ _j : Fr, 
  pur Tryz.prog (Builtin.len_ #[44] 3 #[v_l]) fun t6 => 
  pur Tryz.prog (binS .lss 3 false false v_i t6) fun t7 => 
  condS t7
   (∃ S : World → Prop, S (World.drew w_1) ∧ 
  pur Tryz.prog (Instr.indexAt 44 v_l v_i) fun t12 => 
  hld Tryz.prog S (Instr.loadAt 230 t12) fun t13 => 
  pur Tryz.prog (Instr.indexAt 44 v_l v_i) fun t17 => 
  hld Tryz.prog S (Instr.loadAt 230 t17) fun t18 => 
  pur Tryz.prog (Builtin.len_ #[230] 3 #[t18]) fun t19 => 
  callS Tryz.prog 217 #[v_i, (.int .i64 0), t19] (fun t20 w_2 => S w_2 ∧ 
  callS Tryz.prog 200 #[t13, t20] (fun t21 w_3 => S w_3 ∧ 
  pur Tryz.prog (Op.unary .not t21) fun t22 => 
  condS t22
   (Q (.bool false) w_3)
   (pur Tryz.prog (binS .add 3 false true v_i (.int .i64 1)) fun t9 => 
  J t9 w_3)) w_2) (World.drew w_1))
   (Q (.bool true) w_1)) [(.int .i64 0)] w
theorem eq156 (v_l : Value) (Q : Value → World → Prop) (w : World) : semF Tryz.prog 156 [v_l] Q w = S156 v_l Q w := by kernel_rfl
theorem ref156 {v_l : Value} {Q : Value → World → Prop} {w : World} (h : S156 v_l Q w) : callS Tryz.prog 156 #[v_l] Q w :=
  callS_of mix (fun a w => Tryz.call156 a w) (by kernel_rfl) (by rw [eq156]; exact h)
-- commons/commonsbook.markedRevokes
def S157 (v_l : Value) (Q : Value → World → Prop) (w : World) : Prop :=
 lp 1 (fun J => fun v_i w_1 => ∀ _j : Fr, 
  pur Tryz.prog (Builtin.len_ #[45] 3 #[v_l]) fun t6 => 
  pur Tryz.prog (binS .lss 3 false false v_i t6) fun t7 => 
  condS t7
   (∃ S : World → Prop, S (World.drew w_1) ∧ 
  pur Tryz.prog (Instr.indexAt 45 v_l v_i) fun t12 => 
  hld Tryz.prog S (Instr.loadAt 232 t12) fun t13 => 
  pur Tryz.prog (Instr.indexAt 45 v_l v_i) fun t17 => 
  hld Tryz.prog S (Instr.loadAt 232 t17) fun t18 => 
  pur Tryz.prog (Builtin.len_ #[232] 3 #[t18]) fun t19 => 
  callS Tryz.prog 218 #[v_i, (.int .i64 0), t19] (fun t20 w_2 => S w_2 ∧ 
  callS Tryz.prog 201 #[t13, t20] (fun t21 w_3 => S w_3 ∧ 
  pur Tryz.prog (Op.unary .not t21) fun t22 => 
  condS t22
   (Q (.bool false) w_3)
   (pur Tryz.prog (binS .add 3 false true v_i (.int .i64 1)) fun t9 => 
  J t9 w_3)) w_2) (World.drew w_1))
   (Q (.bool true) w_1)) [(.int .i64 0)] w
theorem eq157 (v_l : Value) (Q : Value → World → Prop) (w : World) : semF Tryz.prog 157 [v_l] Q w = S157 v_l Q w := by kernel_rfl
theorem ref157 {v_l : Value} {Q : Value → World → Prop} {w : World} (h : S157 v_l Q w) : callS Tryz.prog 157 #[v_l] Q w :=
  callS_of mix (fun a w => Tryz.call157 a w) (by kernel_rfl) (by rw [eq157]; exact h)
-- commons/commonsbook.markedEntries
def S158 (v_l : Value) (Q : Value → World → Prop) (w : World) : Prop :=
 lp 1 (fun J => fun v_i w_1 => ∀ _j : Fr, 
  pur Tryz.prog (Builtin.len_ #[46] 3 #[v_l]) fun t6 => 
  pur Tryz.prog (binS .lss 3 false false v_i t6) fun t7 => 
  condS t7
   (∃ S : World → Prop, S (World.drew w_1) ∧ 
  pur Tryz.prog (Instr.indexAt 46 v_l v_i) fun t12 => 
  hld Tryz.prog S (Instr.loadAt 234 t12) fun t13 => 
  pur Tryz.prog (Instr.indexAt 46 v_l v_i) fun t17 => 
  hld Tryz.prog S (Instr.loadAt 234 t17) fun t18 => 
  pur Tryz.prog (Builtin.len_ #[234] 3 #[t18]) fun t19 => 
  callS Tryz.prog 219 #[v_i, (.int .i64 0), t19] (fun t20 w_2 => S w_2 ∧ 
  callS Tryz.prog 202 #[t13, t20] (fun t21 w_3 => S w_3 ∧ 
  pur Tryz.prog (Op.unary .not t21) fun t22 => 
  condS t22
   (Q (.bool false) w_3)
   (pur Tryz.prog (binS .add 3 false true v_i (.int .i64 1)) fun t9 => 
  J t9 w_3)) w_2) (World.drew w_1))
   (Q (.bool true) w_1)) [(.int .i64 0)] w
theorem eq158 (v_l : Value) (Q : Value → World → Prop) (w : World) : semF Tryz.prog 158 [v_l] Q w = S158 v_l Q w := by kernel_rfl
theorem ref158 {v_l : Value} {Q : Value → World → Prop} {w : World} (h : S158 v_l Q w) : callS Tryz.prog 158 #[v_l] Q w :=
  callS_of mix (fun a w => Tryz.call158 a w) (by kernel_rfl) (by rw [eq158]; exact h)
-- commons/commonsbook.markedParts
def S159 (v_l : Value) (Q : Value → World → Prop) (w : World) : Prop :=
 lp 1 (fun J => fun v_i w_1 => ∀ _j : Fr, 
  pur Tryz.prog (Builtin.len_ #[47] 3 #[v_l]) fun t6 => 
  pur Tryz.prog (binS .lss 3 false false v_i t6) fun t7 => 
  condS t7
   (∃ S : World → Prop, S (World.drew w_1) ∧ 
  pur Tryz.prog (Instr.indexAt 47 v_l v_i) fun t12 => 
  hld Tryz.prog S (Instr.loadAt 93 t12) fun t13 => 
  pur Tryz.prog (Instr.indexAt 47 v_l v_i) fun t17 => 
  hld Tryz.prog S (Instr.loadAt 93 t17) fun t18 => 
  pur Tryz.prog (Builtin.len_ #[93] 3 #[t18]) fun t19 => 
  callS Tryz.prog 220 #[v_i, (.int .i64 0), t19] (fun t20 w_2 => S w_2 ∧ 
  callS Tryz.prog 203 #[t13, t20] (fun t21 w_3 => S w_3 ∧ 
  pur Tryz.prog (Op.unary .not t21) fun t22 => 
  condS t22
   (Q (.bool false) w_3)
   (pur Tryz.prog (binS .add 3 false true v_i (.int .i64 1)) fun t9 => 
  J t9 w_3)) w_2) (World.drew w_1))
   (Q (.bool true) w_1)) [(.int .i64 0)] w
theorem eq159 (v_l : Value) (Q : Value → World → Prop) (w : World) : semF Tryz.prog 159 [v_l] Q w = S159 v_l Q w := by kernel_rfl
theorem ref159 {v_l : Value} {Q : Value → World → Prop} {w : World} (h : S159 v_l Q w) : callS Tryz.prog 159 #[v_l] Q w :=
  callS_of mix (fun a w => Tryz.call159 a w) (by kernel_rfl) (by rw [eq159]; exact h)
-- commons/commonsbook.markedMsgs
def S160 (v_l : Value) (Q : Value → World → Prop) (w : World) : Prop :=
 lp 1 (fun J => fun v_i w_1 => ∀ _j : Fr, 
  pur Tryz.prog (Builtin.len_ #[48] 3 #[v_l]) fun t6 => 
  pur Tryz.prog (binS .lss 3 false false v_i t6) fun t7 => 
  condS t7
   (∃ S : World → Prop, S (World.drew w_1) ∧ 
  pur Tryz.prog (Instr.indexAt 48 v_l v_i) fun t12 => 
  hld Tryz.prog S (Instr.loadAt 237 t12) fun t13 => 
  pur Tryz.prog (Instr.indexAt 48 v_l v_i) fun t17 => 
  hld Tryz.prog S (Instr.loadAt 237 t17) fun t18 => 
  pur Tryz.prog (Builtin.len_ #[237] 3 #[t18]) fun t19 => 
  callS Tryz.prog 207 #[v_i, (.int .i64 0), t19] (fun t20 w_2 => S w_2 ∧ 
  callS Tryz.prog 204 #[t13, t20] (fun t21 w_3 => S w_3 ∧ 
  pur Tryz.prog (Op.unary .not t21) fun t22 => 
  condS t22
   (Q (.bool false) w_3)
   (pur Tryz.prog (binS .add 3 false true v_i (.int .i64 1)) fun t9 => 
  J t9 w_3)) w_2) (World.drew w_1))
   (Q (.bool true) w_1)) [(.int .i64 0)] w
theorem eq160 (v_l : Value) (Q : Value → World → Prop) (w : World) : semF Tryz.prog 160 [v_l] Q w = S160 v_l Q w := by kernel_rfl
theorem ref160 {v_l : Value} {Q : Value → World → Prop} {w : World} (h : S160 v_l Q w) : callS Tryz.prog 160 #[v_l] Q w :=
  callS_of mix (fun a w => Tryz.call160 a w) (by kernel_rfl) (by rw [eq160]; exact h)
-- commons/commonsbook.markedSteps
def S161 (v_l : Value) (Q : Value → World → Prop) (w : World) : Prop :=
 lp 1 (fun J => fun v_i w_1 => ∀ _j : Fr, 
  pur Tryz.prog (Builtin.len_ #[49] 3 #[v_l]) fun t6 => 
  pur Tryz.prog (binS .lss 3 false false v_i t6) fun t7 => 
  condS t7
   (∃ S : World → Prop, S (World.drew w_1) ∧ 
  pur Tryz.prog (Instr.indexAt 49 v_l v_i) fun t12 => 
  hld Tryz.prog S (Instr.loadAt 239 t12) fun t13 => 
  pur Tryz.prog (Instr.indexAt 49 v_l v_i) fun t17 => 
  hld Tryz.prog S (Instr.loadAt 239 t17) fun t18 => 
  pur Tryz.prog (Builtin.len_ #[239] 3 #[t18]) fun t19 => 
  callS Tryz.prog 208 #[v_i, (.int .i64 0), t19] (fun t20 w_2 => S w_2 ∧ 
  callS Tryz.prog 205 #[t13, t20] (fun t21 w_3 => S w_3 ∧ 
  pur Tryz.prog (Op.unary .not t21) fun t22 => 
  condS t22
   (Q (.bool false) w_3)
   (pur Tryz.prog (binS .add 3 false true v_i (.int .i64 1)) fun t9 => 
  J t9 w_3)) w_2) (World.drew w_1))
   (Q (.bool true) w_1)) [(.int .i64 0)] w
theorem eq161 (v_l : Value) (Q : Value → World → Prop) (w : World) : semF Tryz.prog 161 [v_l] Q w = S161 v_l Q w := by kernel_rfl
theorem ref161 {v_l : Value} {Q : Value → World → Prop} {w : World} (h : S161 v_l Q w) : callS Tryz.prog 161 #[v_l] Q w :=
  callS_of mix (fun a w => Tryz.call161 a w) (by kernel_rfl) (by rw [eq161]; exact h)
-- cmp.Or[int]
def S167 (v_vals : Value) (Q : Value → World → Prop) (w : World) : Prop :=
 pur Tryz.prog (Builtin.len_ #[64] 3 #[v_vals]) fun t7 => 
 lp 1 (fun J => fun t8 w_1 => ∀ _j : Fr, 
  pur Tryz.prog (binS .lss 3 false false t8 t7) fun t9 => 
  condS t9
   (pur Tryz.prog (Instr.indexAt 64 v_vals t8) fun t10 => 
  rd Tryz.prog (Instr.loadAt 3 t10) (fun t11 => 
  pur Tryz.prog (binS .neq 3 false false t11 (.int .i64 0)) fun t14 => 
  condS t14
   (Q t11 w_1)
   (pur Tryz.prog (binS .add 3 false true t8 (.int .i64 1)) fun t16 => 
  J t16 w_1)) w_1)
   (Q (.int .i64 0) w_1)) [(.int .i64 0)] w
theorem eq167 (v_vals : Value) (Q : Value → World → Prop) (w : World) : semF Tryz.prog 167 [v_vals] Q w = S167 v_vals Q w := by kernel_rfl
theorem ref167 {v_vals : Value} {Q : Value → World → Prop} {w : World} (h : S167 v_vals Q w) : callS Tryz.prog 167 #[v_vals] Q w :=
  callS_of mix (fun a w => Tryz.call167 a w) (by kernel_rfl) (by rw [eq167]; exact h)
-- cmp.Compare[int]
def S168 (v_x v_y : Value) (Q : Value → World → Prop) (w : World) : Prop :=
 callS Tryz.prog 224 #[v_x] (fun t8 w_1 => 
 callS Tryz.prog 224 #[v_y] (fun t10 w_2 => 
 condS t8
  (condS t10
   (Q (.int .i64 0) w_2)
   (Q (.int .i64 (-1)) w_2))
  (condS t10
  (Q (.int .i64 1) w_2)
  (pur Tryz.prog (binS .lss 3 false false v_x v_y) fun t16 => 
 condS t16
  (Q (.int .i64 (-1)) w_2)
  (pur Tryz.prog (binS .gtr 3 false false v_x v_y) fun t19 => 
 condS t19
  (Q (.int .i64 1) w_2)
  (Q (.int .i64 0) w_2))))) w_1) w
theorem eq168 (v_x v_y : Value) (Q : Value → World → Prop) (w : World) : semF Tryz.prog 168 [v_x, v_y] Q w = S168 v_x v_y Q w := by kernel_rfl
theorem ref168 {v_x v_y : Value} {Q : Value → World → Prop} {w : World} (h : S168 v_x v_y Q w) : callS Tryz.prog 168 #[v_x, v_y] Q w :=
  callS_of mix (fun a w => Tryz.call168 a w) (by kernel_rfl) (by rw [eq168]; exact h)
-- slices.Collect[*commons/heap.item[int]]
def S192 (v_seq : Value) (Q : Value → World → Prop) (w : World) : Prop :=
 callS Tryz.prog 236 #[(.slice none 0 0), v_seq] (fun t4 w_1 => 
 Q t4 w_1) w
theorem eq192 (v_seq : Value) (Q : Value → World → Prop) (w : World) : semF Tryz.prog 192 [v_seq] Q w = S192 v_seq Q w := by kernel_rfl
theorem ref192 {v_seq : Value} {Q : Value → World → Prop} {w : World} (h : S192 v_seq Q w) : callS Tryz.prog 192 #[v_seq] Q w :=
  callS_of mix (fun a w => Tryz.call192 a w) (by kernel_rfl) (by rw [eq192]; exact h)
-- slices.SortFunc[[]*commons/heap.item[int],*commons/heap.item[int]]
def S193 (v_x v_cmp : Value) (Q : Value → World → Prop) (w : World) : Prop :=
 pur Tryz.prog (Builtin.len_ #[30] 3 #[v_x]) fun t6 => 
 pur Tryz.prog (convert 3 274 t6) fun t10 => 
 callS Tryz.prog 223 #[t10] (fun t11 w_1 => 
 callS Tryz.prog 237 #[v_x, (.int .i64 0), t6, t11, v_cmp] (fun _ w_2 => 
 Q (.tuple #[]) w_2) w_1) w
theorem eq193 (v_x v_cmp : Value) (Q : Value → World → Prop) (w : World) : semF Tryz.prog 193 [v_x, v_cmp] Q w = S193 v_x v_cmp Q w := by kernel_rfl
theorem ref193 {v_x v_cmp : Value} {Q : Value → World → Prop} {w : World} (h : S193 v_x v_cmp Q w) : callS Tryz.prog 193 #[v_x, v_cmp] Q w :=
  callS_of mix (fun a w => Tryz.call193 a w) (by kernel_rfl) (by rw [eq193]; exact h)
-- slices.Values[[]*commons/heap.item[int],*commons/heap.item[int]]$1
def S194 (v_yield t1 : Value) (Q : Value → World → Prop) (w : World) : Prop :=
 rd Tryz.prog (Instr.loadAt 30 t1) (fun t5 => 
 pur Tryz.prog (Builtin.len_ #[30] 3 #[t5]) fun t6 => 
 lp 1 (fun J => fun t7 w_1 => ∀ _j : Fr, 
  pur Tryz.prog (binS .lss 3 false false t7 t6) fun t8 => 
  condS t8
   (pur Tryz.prog (Instr.indexAt 30 t5 t7) fun t9 => 
  rd Tryz.prog (Instr.loadAt 155 t9) (fun t10 => 
  callF Tryz.prog v_yield #[t10] (fun t13 w_2 => 
  pur Tryz.prog (Op.unary .not t13) fun t14 => 
  condS t14
   (Q (.tuple #[]) w_2)
   (pur Tryz.prog (binS .add 3 false true t7 (.int .i64 1)) fun t15 => 
  J t15 w_2)) w_1) w_1)
   (Q (.tuple #[]) w_1)) [(.int .i64 0)] w) w
theorem eq194 (v_yield t1 : Value) (Q : Value → World → Prop) (w : World) : semF Tryz.prog 194 [v_yield, t1] Q w = S194 v_yield t1 Q w := by kernel_rfl
theorem ref194 {v_yield t1 : Value} {Q : Value → World → Prop} {w : World} (h : S194 v_yield t1 Q w) : callS Tryz.prog 194 #[v_yield, t1] Q w :=
  callS_of mix (fun a w => Tryz.call194 a w) (by kernel_rfl) (by rw [eq194]; exact h)
-- commons/commonsbook.SameTexts
def S195 (v_a v_b : Value) (Q : Value → World → Prop) (w : World) : Prop :=
 pur Tryz.prog (Builtin.len_ #[220] 3 #[v_a]) fun t7 => 
 pur Tryz.prog (Builtin.len_ #[220] 3 #[v_b]) fun t9 => 
 pur Tryz.prog (binS .neq 3 false false t7 t9) fun t10 => 
 condS t10
  (Q (.bool false) w)
  (lp 1 (fun J => fun v_i w_1 => ∀ _j : Fr, 
  pur Tryz.prog (Builtin.len_ #[220] 3 #[v_a]) fun t13 => 
  pur Tryz.prog (binS .lss 3 false false v_i t13) fun t14 => 
  condS t14
   (pur Tryz.prog (Instr.indexAt 220 v_a v_i) fun t19 => 
  rd Tryz.prog (Instr.loadAt 9 t19) (fun t20 => 
  pur Tryz.prog (Instr.indexAt 220 v_b v_i) fun t23 => 
  rd Tryz.prog (Instr.loadAt 9 t23) (fun t24 => 
  pur Tryz.prog (binS .eql 9 false false t20 t24) fun t25 => 
  pur Tryz.prog (Op.unary .not t25) fun t26 => 
  condS t26
   (Q (.bool false) (World.drew w_1))
   (pur Tryz.prog (binS .add 3 false true v_i (.int .i64 1)) fun t16 => 
  J t16 (World.drew w_1))) (World.drew w_1)) (World.drew w_1))
   (Q (.bool true) w_1)) [(.int .i64 0)] w)
theorem eq195 (v_a v_b : Value) (Q : Value → World → Prop) (w : World) : semF Tryz.prog 195 [v_a, v_b] Q w = S195 v_a v_b Q w := by kernel_rfl
theorem ref195 {v_a v_b : Value} {Q : Value → World → Prop} {w : World} (h : S195 v_a v_b Q w) : callS Tryz.prog 195 #[v_a, v_b] Q w :=
  callS_of mix (fun a w => Tryz.call195 a w) (by kernel_rfl) (by rw [eq195]; exact h)
-- commons/commonsbook.SameNums
def S196 (v_a v_b : Value) (Q : Value → World → Prop) (w : World) : Prop :=
 pur Tryz.prog (Builtin.len_ #[222] 3 #[v_a]) fun t7 => 
 pur Tryz.prog (Builtin.len_ #[222] 3 #[v_b]) fun t9 => 
 pur Tryz.prog (binS .neq 3 false false t7 t9) fun t10 => 
 condS t10
  (Q (.bool false) w)
  (lp 1 (fun J => fun v_i w_1 => ∀ _j : Fr, 
  pur Tryz.prog (Builtin.len_ #[222] 3 #[v_a]) fun t13 => 
  pur Tryz.prog (binS .lss 3 false false v_i t13) fun t14 => 
  condS t14
   (pur Tryz.prog (Instr.indexAt 222 v_a v_i) fun t19 => 
  rd Tryz.prog (Instr.loadAt 136 t19) (fun t20 => 
  pur Tryz.prog (Instr.indexAt 222 v_b v_i) fun t23 => 
  rd Tryz.prog (Instr.loadAt 136 t23) (fun t24 => 
  pur Tryz.prog (binS .eql 136 false false t20 t24) fun t25 => 
  pur Tryz.prog (Op.unary .not t25) fun t26 => 
  condS t26
   (Q (.bool false) (World.drew w_1))
   (pur Tryz.prog (binS .add 3 false true v_i (.int .i64 1)) fun t16 => 
  J t16 (World.drew w_1))) (World.drew w_1)) (World.drew w_1))
   (Q (.bool true) w_1)) [(.int .i64 0)] w)
theorem eq196 (v_a v_b : Value) (Q : Value → World → Prop) (w : World) : semF Tryz.prog 196 [v_a, v_b] Q w = S196 v_a v_b Q w := by kernel_rfl
theorem ref196 {v_a v_b : Value} {Q : Value → World → Prop} {w : World} (h : S196 v_a v_b Q w) : callS Tryz.prog 196 #[v_a, v_b] Q w :=
  callS_of mix (fun a w => Tryz.call196 a w) (by kernel_rfl) (by rw [eq196]; exact h)
-- commons/commonsbook.SameRecords
def S197 (v_a v_b : Value) (Q : Value → World → Prop) (w : World) : Prop :=
 pur Tryz.prog (Builtin.len_ #[224] 3 #[v_a]) fun t7 => 
 pur Tryz.prog (Builtin.len_ #[224] 3 #[v_b]) fun t9 => 
 pur Tryz.prog (binS .neq 3 false false t7 t9) fun t10 => 
 condS t10
  (Q (.bool false) w)
  (lp 1 (fun J => fun v_i w_1 => ∀ _j : Fr, 
  pur Tryz.prog (Builtin.len_ #[224] 3 #[v_a]) fun t13 => 
  pur Tryz.prog (binS .lss 3 false false v_i t13) fun t14 => 
  condS t14
   (pur Tryz.prog (Instr.indexAt 224 v_a v_i) fun t19 => 
  pur Tryz.prog (Instr.fieldAt 242 t19 0) fun t20 => 
  rd Tryz.prog (Instr.loadAt 136 t20) (fun t21 => 
  pur Tryz.prog (Instr.indexAt 224 v_b v_i) fun t24 => 
  pur Tryz.prog (Instr.fieldAt 242 t24 0) fun t25 => 
  rd Tryz.prog (Instr.loadAt 136 t25) (fun t26 => 
  pur Tryz.prog (binS .eql 136 false false t21 t26) fun t27 => 
  gd t27 true (fun k w_2 => k v_a w_2) (fun t29_1 w_3 => 
  gd t27 true (fun k_1 w_4 => k_1 v_i w_4) (fun t30_1 w_5 => 
  gd t27 true (fun k_2 w_6 => pur Tryz.prog (Instr.indexAt 224 t29_1 t30_1) fun t31 => k_2 t31 w_6) (fun t31_1 w_7 => 
  gd t27 true (fun k_3 w_8 => pur Tryz.prog (Instr.fieldAt 242 t31_1 1) fun t32 => k_3 t32 w_8) (fun t32_1 w_9 => 
  gd t27 true (fun k_4 w_10 => rd Tryz.prog (Instr.loadAt 136 t32_1) (fun t33 => k_4 t33 w_10) w_10) (fun t33_1 w_11 => 
  gd t27 true (fun k_5 w_12 => k_5 v_b w_12) (fun t34_1 w_13 => 
  gd t27 true (fun k_6 w_14 => k_6 v_i w_14) (fun t35_1 w_15 => 
  gd t27 true (fun k_7 w_16 => pur Tryz.prog (Instr.indexAt 224 t34_1 t35_1) fun t36 => k_7 t36 w_16) (fun t36_1 w_17 => 
  gd t27 true (fun k_8 w_18 => pur Tryz.prog (Instr.fieldAt 242 t36_1 1) fun t37 => k_8 t37 w_18) (fun t37_1 w_19 => 
  gd t27 true (fun k_9 w_20 => rd Tryz.prog (Instr.loadAt 136 t37_1) (fun t38 => k_9 t38 w_20) w_20) (fun t38_1 w_21 => 
  gd t27 true (fun k_10 w_22 => pur Tryz.prog (binS .eql 136 false false t33_1 t38_1) fun t39 => k_10 t39 w_22) (fun t39_1 w_23 => 
  pur Tryz.prog (pickS t27 t39_1 (.bool false)) fun t40 => 
  gd t40 true (fun k_11 w_24 => k_11 v_a w_24) (fun t42_1 w_25 => 
  gd t40 true (fun k_12 w_26 => k_12 v_i w_26) (fun t43_1 w_27 => 
  gd t40 true (fun k_13 w_28 => pur Tryz.prog (Instr.indexAt 224 t42_1 t43_1) fun t44 => k_13 t44 w_28) (fun t44_1 w_29 => 
  gd t40 true (fun k_14 w_30 => pur Tryz.prog (Instr.fieldAt 242 t44_1 2) fun t45 => k_14 t45 w_30) (fun t45_1 w_31 => 
  gd t40 true (fun k_15 w_32 => rd Tryz.prog (Instr.loadAt 131 t45_1) (fun t46 => k_15 t46 w_32) w_32) (fun t46_1 w_33 => 
  gd t40 true (fun k_16 w_34 => k_16 v_b w_34) (fun t47_1 w_35 => 
  gd t40 true (fun k_17 w_36 => k_17 v_i w_36) (fun t48_1 w_37 => 
  gd t40 true (fun k_18 w_38 => pur Tryz.prog (Instr.indexAt 224 t47_1 t48_1) fun t49 => k_18 t49 w_38) (fun t49_1 w_39 => 
  gd t40 true (fun k_19 w_40 => pur Tryz.prog (Instr.fieldAt 242 t49_1 2) fun t50 => k_19 t50 w_40) (fun t50_1 w_41 => 
  gd t40 true (fun k_20 w_42 => rd Tryz.prog (Instr.loadAt 131 t50_1) (fun t51 => k_20 t51 w_42) w_42) (fun t51_1 w_43 => 
  gd t40 true (fun k_21 w_44 => callS Tryz.prog 93 #[t46_1, t51_1] (fun t52 w_45 => k_21 t52 w_45) w_44) (fun t52_1 w_46 => 
  pur Tryz.prog (pickS t40 t52_1 (.bool false)) fun t53 => 
  pur Tryz.prog (Op.unary .not t53) fun t54 => 
  condS t54
   (Q (.bool false) w_46)
   (pur Tryz.prog (binS .add 3 false true v_i (.int .i64 1)) fun t16 => 
  J t16 w_46)) w_43) w_41) w_39) w_37) w_35) w_33) w_31) w_29) w_27) w_25) w_23) w_21) w_19) w_17) w_15) w_13) w_11) w_9) w_7) w_5) w_3) (World.drew w_1)) (World.drew w_1)) (World.drew w_1))
   (Q (.bool true) w_1)) [(.int .i64 0)] w)
theorem eq197 (v_a v_b : Value) (Q : Value → World → Prop) (w : World) : semF Tryz.prog 197 [v_a, v_b] Q w = S197 v_a v_b Q w := by kernel_rfl
theorem ref197 {v_a v_b : Value} {Q : Value → World → Prop} {w : World} (h : S197 v_a v_b Q w) : callS Tryz.prog 197 #[v_a, v_b] Q w :=
  callS_of mix (fun a w => Tryz.call197 a w) (by kernel_rfl) (by rw [eq197]; exact h)
-- commons/commonsbook.SamePackets
def S198 (v_a v_b : Value) (Q : Value → World → Prop) (w : World) : Prop :=
 pur Tryz.prog (Builtin.len_ #[226] 3 #[v_a]) fun t7 => 
 pur Tryz.prog (Builtin.len_ #[226] 3 #[v_b]) fun t9 => 
 pur Tryz.prog (binS .neq 3 false false t7 t9) fun t10 => 
 condS t10
  (Q (.bool false) w)
  (lp 1 (fun J => fun v_i w_1 => ∀ _j : Fr, 
  pur Tryz.prog (Builtin.len_ #[226] 3 #[v_a]) fun t13 => 
  pur Tryz.prog (binS .lss 3 false false v_i t13) fun t14 => 
  condS t14
   (pur Tryz.prog (Instr.indexAt 226 v_a v_i) fun t19 => 
  rd Tryz.prog (Instr.loadAt 257 t19) (fun t20 => 
  pur Tryz.prog (Instr.indexAt 226 v_b v_i) fun t23 => 
  rd Tryz.prog (Instr.loadAt 257 t23) (fun t24 => 
  rd Tryz.prog (binS .eql 257 false false t20 t24) (fun t25 => 
  pur Tryz.prog (Op.unary .not t25) fun t26 => 
  condS t26
   (Q (.bool false) (World.drew w_1))
   (pur Tryz.prog (binS .add 3 false true v_i (.int .i64 1)) fun t16 => 
  J t16 (World.drew w_1))) (World.drew w_1)) (World.drew w_1)) (World.drew w_1))
   (Q (.bool true) w_1)) [(.int .i64 0)] w)
theorem eq198 (v_a v_b : Value) (Q : Value → World → Prop) (w : World) : semF Tryz.prog 198 [v_a, v_b] Q w = S198 v_a v_b Q w := by kernel_rfl
theorem ref198 {v_a v_b : Value} {Q : Value → World → Prop} {w : World} (h : S198 v_a v_b Q w) : callS Tryz.prog 198 #[v_a, v_b] Q w :=
  callS_of mix (fun a w => Tryz.call198 a w) (by kernel_rfl) (by rw [eq198]; exact h)
-- commons/commonsbook.SameFrames
def S199 (v_a v_b : Value) (Q : Value → World → Prop) (w : World) : Prop :=
 pur Tryz.prog (Builtin.len_ #[228] 3 #[v_a]) fun t7 => 
 pur Tryz.prog (Builtin.len_ #[228] 3 #[v_b]) fun t9 => 
 pur Tryz.prog (binS .neq 3 false false t7 t9) fun t10 => 
 condS t10
  (Q (.bool false) w)
  (lp 1 (fun J => fun v_i w_1 => ∀ _j : Fr, 
  pur Tryz.prog (Builtin.len_ #[228] 3 #[v_a]) fun t13 => 
  pur Tryz.prog (binS .lss 3 false false v_i t13) fun t14 => 
  condS t14
   (pur Tryz.prog (Instr.indexAt 228 v_a v_i) fun t19 => 
  rd Tryz.prog (Instr.loadAt 260 t19) (fun t20 => 
  pur Tryz.prog (Instr.indexAt 228 v_b v_i) fun t23 => 
  rd Tryz.prog (Instr.loadAt 260 t23) (fun t24 => 
  rd Tryz.prog (binS .eql 260 false false t20 t24) (fun t25 => 
  pur Tryz.prog (Op.unary .not t25) fun t26 => 
  condS t26
   (Q (.bool false) (World.drew w_1))
   (pur Tryz.prog (binS .add 3 false true v_i (.int .i64 1)) fun t16 => 
  J t16 (World.drew w_1))) (World.drew w_1)) (World.drew w_1)) (World.drew w_1))
   (Q (.bool true) w_1)) [(.int .i64 0)] w)
theorem eq199 (v_a v_b : Value) (Q : Value → World → Prop) (w : World) : semF Tryz.prog 199 [v_a, v_b] Q w = S199 v_a v_b Q w := by kernel_rfl
theorem ref199 {v_a v_b : Value} {Q : Value → World → Prop} {w : World} (h : S199 v_a v_b Q w) : callS Tryz.prog 199 #[v_a, v_b] Q w :=
  callS_of mix (fun a w => Tryz.call199 a w) (by kernel_rfl) (by rw [eq199]; exact h)
-- commons/commonsbook.SameWaits
def S200 (v_a v_b : Value) (Q : Value → World → Prop) (w : World) : Prop :=
 pur Tryz.prog (Builtin.len_ #[230] 3 #[v_a]) fun t7 => 
 pur Tryz.prog (Builtin.len_ #[230] 3 #[v_b]) fun t9 => 
 pur Tryz.prog (binS .neq 3 false false t7 t9) fun t10 => 
 condS t10
  (Q (.bool false) w)
  (lp 1 (fun J => fun v_i w_1 => ∀ _j : Fr, 
  pur Tryz.prog (Builtin.len_ #[230] 3 #[v_a]) fun t13 => 
  pur Tryz.prog (binS .lss 3 false false v_i t13) fun t14 => 
  condS t14
   (pur Tryz.prog (Instr.indexAt 230 v_a v_i) fun t19 => 
  rd Tryz.prog (Instr.loadAt 263 t19) (fun t20 => 
  pur Tryz.prog (Instr.indexAt 230 v_b v_i) fun t23 => 
  rd Tryz.prog (Instr.loadAt 263 t23) (fun t24 => 
  rd Tryz.prog (binS .eql 263 false false t20 t24) (fun t25 => 
  pur Tryz.prog (Op.unary .not t25) fun t26 => 
  condS t26
   (Q (.bool false) (World.drew w_1))
   (pur Tryz.prog (binS .add 3 false true v_i (.int .i64 1)) fun t16 => 
  J t16 (World.drew w_1))) (World.drew w_1)) (World.drew w_1)) (World.drew w_1))
   (Q (.bool true) w_1)) [(.int .i64 0)] w)
theorem eq200 (v_a v_b : Value) (Q : Value → World → Prop) (w : World) : semF Tryz.prog 200 [v_a, v_b] Q w = S200 v_a v_b Q w := by kernel_rfl
theorem ref200 {v_a v_b : Value} {Q : Value → World → Prop} {w : World} (h : S200 v_a v_b Q w) : callS Tryz.prog 200 #[v_a, v_b] Q w :=
  callS_of mix (fun a w => Tryz.call200 a w) (by kernel_rfl) (by rw [eq200]; exact h)
-- commons/commonsbook.SameRevokes
def S201 (v_a v_b : Value) (Q : Value → World → Prop) (w : World) : Prop :=
 pur Tryz.prog (Builtin.len_ #[232] 3 #[v_a]) fun t7 => 
 pur Tryz.prog (Builtin.len_ #[232] 3 #[v_b]) fun t9 => 
 pur Tryz.prog (binS .neq 3 false false t7 t9) fun t10 => 
 condS t10
  (Q (.bool false) w)
  (lp 1 (fun J => fun v_i w_1 => ∀ _j : Fr, 
  pur Tryz.prog (Builtin.len_ #[232] 3 #[v_a]) fun t13 => 
  pur Tryz.prog (binS .lss 3 false false v_i t13) fun t14 => 
  condS t14
   (pur Tryz.prog (Instr.indexAt 232 v_a v_i) fun t19 => 
  rd Tryz.prog (Instr.loadAt 266 t19) (fun t20 => 
  pur Tryz.prog (Instr.indexAt 232 v_b v_i) fun t23 => 
  rd Tryz.prog (Instr.loadAt 266 t23) (fun t24 => 
  rd Tryz.prog (binS .eql 266 false false t20 t24) (fun t25 => 
  pur Tryz.prog (Op.unary .not t25) fun t26 => 
  condS t26
   (Q (.bool false) (World.drew w_1))
   (pur Tryz.prog (binS .add 3 false true v_i (.int .i64 1)) fun t16 => 
  J t16 (World.drew w_1))) (World.drew w_1)) (World.drew w_1)) (World.drew w_1))
   (Q (.bool true) w_1)) [(.int .i64 0)] w)
theorem eq201 (v_a v_b : Value) (Q : Value → World → Prop) (w : World) : semF Tryz.prog 201 [v_a, v_b] Q w = S201 v_a v_b Q w := by kernel_rfl
theorem ref201 {v_a v_b : Value} {Q : Value → World → Prop} {w : World} (h : S201 v_a v_b Q w) : callS Tryz.prog 201 #[v_a, v_b] Q w :=
  callS_of mix (fun a w => Tryz.call201 a w) (by kernel_rfl) (by rw [eq201]; exact h)
-- commons/commonsbook.SameEntries
def S202 (v_a v_b : Value) (Q : Value → World → Prop) (w : World) : Prop :=
 pur Tryz.prog (Builtin.len_ #[234] 3 #[v_a]) fun t7 => 
 pur Tryz.prog (Builtin.len_ #[234] 3 #[v_b]) fun t9 => 
 pur Tryz.prog (binS .neq 3 false false t7 t9) fun t10 => 
 condS t10
  (Q (.bool false) w)
  (lp 1 (fun J => fun v_i w_1 => ∀ _j : Fr, 
  pur Tryz.prog (Builtin.len_ #[234] 3 #[v_a]) fun t13 => 
  pur Tryz.prog (binS .lss 3 false false v_i t13) fun t14 => 
  condS t14
   (pur Tryz.prog (Instr.indexAt 234 v_a v_i) fun t19 => 
  rd Tryz.prog (Instr.loadAt 269 t19) (fun t20 => 
  pur Tryz.prog (Instr.indexAt 234 v_b v_i) fun t23 => 
  rd Tryz.prog (Instr.loadAt 269 t23) (fun t24 => 
  rd Tryz.prog (binS .eql 269 false false t20 t24) (fun t25 => 
  pur Tryz.prog (Op.unary .not t25) fun t26 => 
  condS t26
   (Q (.bool false) (World.drew w_1))
   (pur Tryz.prog (binS .add 3 false true v_i (.int .i64 1)) fun t16 => 
  J t16 (World.drew w_1))) (World.drew w_1)) (World.drew w_1)) (World.drew w_1))
   (Q (.bool true) w_1)) [(.int .i64 0)] w)
theorem eq202 (v_a v_b : Value) (Q : Value → World → Prop) (w : World) : semF Tryz.prog 202 [v_a, v_b] Q w = S202 v_a v_b Q w := by kernel_rfl
theorem ref202 {v_a v_b : Value} {Q : Value → World → Prop} {w : World} (h : S202 v_a v_b Q w) : callS Tryz.prog 202 #[v_a, v_b] Q w :=
  callS_of mix (fun a w => Tryz.call202 a w) (by kernel_rfl) (by rw [eq202]; exact h)
-- commons/commonsbook.SameParts
def S203 (v_a v_b : Value) (Q : Value → World → Prop) (w : World) : Prop :=
 pur Tryz.prog (Builtin.len_ #[93] 3 #[v_a]) fun t7 => 
 pur Tryz.prog (Builtin.len_ #[93] 3 #[v_b]) fun t9 => 
 pur Tryz.prog (binS .neq 3 false false t7 t9) fun t10 => 
 condS t10
  (Q (.bool false) w)
  (lp 1 (fun J => fun v_i w_1 => ∀ _j : Fr, 
  pur Tryz.prog (Builtin.len_ #[93] 3 #[v_a]) fun t13 => 
  pur Tryz.prog (binS .lss 3 false false v_i t13) fun t14 => 
  condS t14
   (pur Tryz.prog (Instr.indexAt 93 v_a v_i) fun t19 => 
  rd Tryz.prog (Instr.loadAt 201 t19) (fun t20 => 
  pur Tryz.prog (Instr.indexAt 93 v_b v_i) fun t23 => 
  rd Tryz.prog (Instr.loadAt 201 t23) (fun t24 => 
  rd Tryz.prog (binS .eql 201 false false t20 t24) (fun t25 => 
  pur Tryz.prog (Op.unary .not t25) fun t26 => 
  condS t26
   (Q (.bool false) (World.drew w_1))
   (pur Tryz.prog (binS .add 3 false true v_i (.int .i64 1)) fun t16 => 
  J t16 (World.drew w_1))) (World.drew w_1)) (World.drew w_1)) (World.drew w_1))
   (Q (.bool true) w_1)) [(.int .i64 0)] w)
theorem eq203 (v_a v_b : Value) (Q : Value → World → Prop) (w : World) : semF Tryz.prog 203 [v_a, v_b] Q w = S203 v_a v_b Q w := by kernel_rfl
theorem ref203 {v_a v_b : Value} {Q : Value → World → Prop} {w : World} (h : S203 v_a v_b Q w) : callS Tryz.prog 203 #[v_a, v_b] Q w :=
  callS_of mix (fun a w => Tryz.call203 a w) (by kernel_rfl) (by rw [eq203]; exact h)
-- commons/commonsbook.SameMsgs
def S204 (v_a v_b : Value) (Q : Value → World → Prop) (w : World) : Prop :=
 pur Tryz.prog (Builtin.len_ #[237] 3 #[v_a]) fun t7 => 
 pur Tryz.prog (Builtin.len_ #[237] 3 #[v_b]) fun t9 => 
 pur Tryz.prog (binS .neq 3 false false t7 t9) fun t10 => 
 condS t10
  (Q (.bool false) w)
  (lp 1 (fun J => fun v_i w_1 => ∀ _j : Fr, 
  pur Tryz.prog (Builtin.len_ #[237] 3 #[v_a]) fun t13 => 
  pur Tryz.prog (binS .lss 3 false false v_i t13) fun t14 => 
  condS t14
   (pur Tryz.prog (Instr.indexAt 237 v_a v_i) fun t19 => 
  rd Tryz.prog (Instr.loadAt 245 t19) (fun t20 => 
  pur Tryz.prog (Instr.indexAt 237 v_b v_i) fun t23 => 
  rd Tryz.prog (Instr.loadAt 245 t23) (fun t24 => 
  callS Tryz.prog 238 #[t20, t24] (fun t25 w_2 => 
  pur Tryz.prog (Op.unary .not t25) fun t26 => 
  condS t26
   (Q (.bool false) w_2)
   (pur Tryz.prog (binS .add 3 false true v_i (.int .i64 1)) fun t16 => 
  J t16 w_2)) (World.drew w_1)) (World.drew w_1)) (World.drew w_1))
   (Q (.bool true) w_1)) [(.int .i64 0)] w)
theorem eq204 (v_a v_b : Value) (Q : Value → World → Prop) (w : World) : semF Tryz.prog 204 [v_a, v_b] Q w = S204 v_a v_b Q w := by kernel_rfl
theorem ref204 {v_a v_b : Value} {Q : Value → World → Prop} {w : World} (h : S204 v_a v_b Q w) : callS Tryz.prog 204 #[v_a, v_b] Q w :=
  callS_of mix (fun a w => Tryz.call204 a w) (by kernel_rfl) (by rw [eq204]; exact h)
-- commons/commonsbook.SameSteps
def S205 (v_a v_b : Value) (Q : Value → World → Prop) (w : World) : Prop :=
 pur Tryz.prog (Builtin.len_ #[239] 3 #[v_a]) fun t7 => 
 pur Tryz.prog (Builtin.len_ #[239] 3 #[v_b]) fun t9 => 
 pur Tryz.prog (binS .neq 3 false false t7 t9) fun t10 => 
 condS t10
  (Q (.bool false) w)
  (lp 1 (fun J => fun v_i w_1 => ∀ _j : Fr, 
  pur Tryz.prog (Builtin.len_ #[239] 3 #[v_a]) fun t13 => 
  pur Tryz.prog (binS .lss 3 false false v_i t13) fun t14 => 
  condS t14
   (pur Tryz.prog (Instr.indexAt 239 v_a v_i) fun t19 => 
  pur Tryz.prog (Instr.fieldAt 248 t19 0) fun t20 => 
  rd Tryz.prog (Instr.loadAt 9 t20) (fun t21 => 
  pur Tryz.prog (Instr.indexAt 239 v_b v_i) fun t24 => 
  pur Tryz.prog (Instr.fieldAt 248 t24 0) fun t25 => 
  rd Tryz.prog (Instr.loadAt 9 t25) (fun t26 => 
  pur Tryz.prog (binS .eql 9 false false t21 t26) fun t27 => 
  gd t27 true (fun k w_2 => k v_a w_2) (fun t29_1 w_3 => 
  gd t27 true (fun k_1 w_4 => k_1 v_i w_4) (fun t30_1 w_5 => 
  gd t27 true (fun k_2 w_6 => pur Tryz.prog (Instr.indexAt 239 t29_1 t30_1) fun t31 => k_2 t31 w_6) (fun t31_1 w_7 => 
  gd t27 true (fun k_3 w_8 => pur Tryz.prog (Instr.fieldAt 248 t31_1 1) fun t32 => k_3 t32 w_8) (fun t32_1 w_9 => 
  gd t27 true (fun k_4 w_10 => rd Tryz.prog (Instr.loadAt 64 t32_1) (fun t33 => k_4 t33 w_10) w_10) (fun t33_1 w_11 => 
  gd t27 true (fun k_5 w_12 => k_5 v_b w_12) (fun t34_1 w_13 => 
  gd t27 true (fun k_6 w_14 => k_6 v_i w_14) (fun t35_1 w_15 => 
  gd t27 true (fun k_7 w_16 => pur Tryz.prog (Instr.indexAt 239 t34_1 t35_1) fun t36 => k_7 t36 w_16) (fun t36_1 w_17 => 
  gd t27 true (fun k_8 w_18 => pur Tryz.prog (Instr.fieldAt 248 t36_1 1) fun t37 => k_8 t37 w_18) (fun t37_1 w_19 => 
  gd t27 true (fun k_9 w_20 => rd Tryz.prog (Instr.loadAt 64 t37_1) (fun t38 => k_9 t38 w_20) w_20) (fun t38_1 w_21 => 
  gd t27 true (fun k_10 w_22 => callS Tryz.prog 20 #[t33_1, t38_1] (fun t39 w_23 => k_10 t39 w_23) w_22) (fun t39_1 w_24 => 
  pur Tryz.prog (pickS t27 t39_1 (.bool false)) fun t40 => 
  gd t40 true (fun k_11 w_25 => k_11 v_a w_25) (fun t42_1 w_26 => 
  gd t40 true (fun k_12 w_27 => k_12 v_i w_27) (fun t43_1 w_28 => 
  gd t40 true (fun k_13 w_29 => pur Tryz.prog (Instr.indexAt 239 t42_1 t43_1) fun t44 => k_13 t44 w_29) (fun t44_1 w_30 => 
  gd t40 true (fun k_14 w_31 => pur Tryz.prog (Instr.fieldAt 248 t44_1 2) fun t45 => k_14 t45 w_31) (fun t45_1 w_32 => 
  gd t40 true (fun k_15 w_33 => rd Tryz.prog (Instr.loadAt 220 t45_1) (fun t46 => k_15 t46 w_33) w_33) (fun t46_1 w_34 => 
  gd t40 true (fun k_16 w_35 => k_16 v_b w_35) (fun t47_1 w_36 => 
  gd t40 true (fun k_17 w_37 => k_17 v_i w_37) (fun t48_1 w_38 => 
  gd t40 true (fun k_18 w_39 => pur Tryz.prog (Instr.indexAt 239 t47_1 t48_1) fun t49 => k_18 t49 w_39) (fun t49_1 w_40 => 
  gd t40 true (fun k_19 w_41 => pur Tryz.prog (Instr.fieldAt 248 t49_1 2) fun t50 => k_19 t50 w_41) (fun t50_1 w_42 => 
  gd t40 true (fun k_20 w_43 => rd Tryz.prog (Instr.loadAt 220 t50_1) (fun t51 => k_20 t51 w_43) w_43) (fun t51_1 w_44 => 
  gd t40 true (fun k_21 w_45 => callS Tryz.prog 195 #[t46_1, t51_1] (fun t52 w_46 => k_21 t52 w_46) w_45) (fun t52_1 w_47 => 
  pur Tryz.prog (pickS t40 t52_1 (.bool false)) fun t53 => 
  pur Tryz.prog (Op.unary .not t53) fun t54 => 
  condS t54
   (Q (.bool false) w_47)
   (pur Tryz.prog (binS .add 3 false true v_i (.int .i64 1)) fun t16 => 
  J t16 w_47)) w_44) w_42) w_40) w_38) w_36) w_34) w_32) w_30) w_28) w_26) w_24) w_21) w_19) w_17) w_15) w_13) w_11) w_9) w_7) w_5) w_3) (World.drew w_1)) (World.drew w_1)) (World.drew w_1))
   (Q (.bool true) w_1)) [(.int .i64 0)] w)
theorem eq205 (v_a v_b : Value) (Q : Value → World → Prop) (w : World) : semF Tryz.prog 205 [v_a, v_b] Q w = S205 v_a v_b Q w := by kernel_rfl
theorem ref205 {v_a v_b : Value} {Q : Value → World → Prop} {w : World} (h : S205 v_a v_b Q w) : callS Tryz.prog 205 #[v_a, v_b] Q w :=
  callS_of mix (fun a w => Tryz.call205 a w) (by kernel_rfl) (by rw [eq205]; exact h)
-- commons/commonsbook.markRecords
def S206 (v_i v_from v_n : Value) (Q : Value → World → Prop) (w : World) : Prop :=
 lp 2 (fun J => fun v_out v_k w_1 => ∀ _j : Fr, 
  pur Tryz.prog (binS .add 3 false false v_from v_n) fun t13 => 
  pur Tryz.prog (binS .lss 3 false false v_k t13) fun t14 => 
  condS t14
   (pur Tryz.prog (binS .mul 3 true false (.int .i64 1000) v_i) fun t19 => 
  pur Tryz.prog (binS .add 3 false false t19 v_k) fun t21 => 
  pur Tryz.prog (binS .add 3 false true t21 (.int .i64 9)) fun t22 => 
  pur Tryz.prog (convert 3 136 t22) fun t23 => 
  pur Tryz.prog (Instr.build 242 #[(1, t23)]) fun t24 => 
  act Tryz.prog (Instr.buildSlice 224 1 #[(0, t24)]) (fun t25 w_2 => 
  act Tryz.prog (Builtin.append_ #[224, 224] 224 #[v_out, t25]) (fun t26 w_3 => 
  pur Tryz.prog (binS .add 3 false true v_k (.int .i64 1)) fun t16 => 
  J t26 t16 w_3) w_2) w_1)
   (Q v_out w_1)) [(.slice none 0 0), v_from] w
theorem eq206 (v_i v_from v_n : Value) (Q : Value → World → Prop) (w : World) : semF Tryz.prog 206 [v_i, v_from, v_n] Q w = S206 v_i v_from v_n Q w := by kernel_rfl
theorem ref206 {v_i v_from v_n : Value} {Q : Value → World → Prop} {w : World} (h : S206 v_i v_from v_n Q w) : callS Tryz.prog 206 #[v_i, v_from, v_n] Q w :=
  callS_of mix (fun a w => Tryz.call206 a w) (by kernel_rfl) (by rw [eq206]; exact h)
-- commons/commonsbook.markMsgs
def S207 (v_i v_from v_n : Value) (Q : Value → World → Prop) (w : World) : Prop :=
 lp 2 (fun J => fun v_out v_k w_1 => ∀ _j : Fr, 
  pur Tryz.prog (binS .add 3 false false v_from v_n) fun t13 => 
  pur Tryz.prog (binS .lss 3 false false v_k t13) fun t14 => 
  condS t14
   (pur Tryz.prog (binS .sub 3 true false (.int .i64 (-1)) v_i) fun t19 => 
  pur Tryz.prog (Instr.build 245 #[(1, t19), (2, v_k)]) fun t21 => 
  act Tryz.prog (Instr.buildSlice 237 1 #[(0, t21)]) (fun t22 w_2 => 
  act Tryz.prog (Builtin.append_ #[237, 237] 237 #[v_out, t22]) (fun t23 w_3 => 
  pur Tryz.prog (binS .add 3 false true v_k (.int .i64 1)) fun t16 => 
  J t23 t16 w_3) w_2) w_1)
   (Q v_out w_1)) [(.slice none 0 0), v_from] w
theorem eq207 (v_i v_from v_n : Value) (Q : Value → World → Prop) (w : World) : semF Tryz.prog 207 [v_i, v_from, v_n] Q w = S207 v_i v_from v_n Q w := by kernel_rfl
theorem ref207 {v_i v_from v_n : Value} {Q : Value → World → Prop} {w : World} (h : S207 v_i v_from v_n Q w) : callS Tryz.prog 207 #[v_i, v_from, v_n] Q w :=
  callS_of mix (fun a w => Tryz.call207 a w) (by kernel_rfl) (by rw [eq207]; exact h)
-- commons/commonsbook.markSteps
def S208 (v_i v_from v_n : Value) (Q : Value → World → Prop) (w : World) : Prop :=
 lp 2 (fun J => fun v_out v_k w_1 => ∀ _j : Fr, 
  pur Tryz.prog (binS .add 3 false false v_from v_n) fun t13 => 
  pur Tryz.prog (binS .lss 3 false false v_k t13) fun t14 => 
  condS t14
   (callS Tryz.prog 239 #[v_i, v_k] (fun t20 w_2 => 
  pur Tryz.prog (Instr.build 248 #[(0, t20)]) fun t21 => 
  act Tryz.prog (Instr.buildSlice 239 1 #[(0, t21)]) (fun t22 w_3 => 
  act Tryz.prog (Builtin.append_ #[239, 239] 239 #[v_out, t22]) (fun t23 w_4 => 
  pur Tryz.prog (binS .add 3 false true v_k (.int .i64 1)) fun t16 => 
  J t23 t16 w_4) w_3) w_2) w_1)
   (Q v_out w_1)) [(.slice none 0 0), v_from] w
theorem eq208 (v_i v_from v_n : Value) (Q : Value → World → Prop) (w : World) : semF Tryz.prog 208 [v_i, v_from, v_n] Q w = S208 v_i v_from v_n Q w := by kernel_rfl
theorem ref208 {v_i v_from v_n : Value} {Q : Value → World → Prop} {w : World} (h : S208 v_i v_from v_n Q w) : callS Tryz.prog 208 #[v_i, v_from, v_n] Q w :=
  callS_of mix (fun a w => Tryz.call208 a w) (by kernel_rfl) (by rw [eq208]; exact h)
-- commons/commonsbook.markTexts
def S209 (v_i v_from v_n : Value) (Q : Value → World → Prop) (w : World) : Prop :=
 lp 2 (fun J => fun v_out v_k w_1 => ∀ _j : Fr, 
  pur Tryz.prog (binS .add 3 false false v_from v_n) fun t13 => 
  pur Tryz.prog (binS .lss 3 false false v_k t13) fun t14 => 
  condS t14
   (callS Tryz.prog 239 #[v_i, v_k] (fun t20 w_2 => 
  act Tryz.prog (Instr.buildSlice 220 1 #[(0, t20)]) (fun t21 w_3 => 
  act Tryz.prog (Builtin.append_ #[220, 220] 220 #[v_out, t21]) (fun t22 w_4 => 
  pur Tryz.prog (binS .add 3 false true v_k (.int .i64 1)) fun t16 => 
  J t22 t16 w_4) w_3) w_2) w_1)
   (Q v_out w_1)) [(.slice none 0 0), v_from] w
theorem eq209 (v_i v_from v_n : Value) (Q : Value → World → Prop) (w : World) : semF Tryz.prog 209 [v_i, v_from, v_n] Q w = S209 v_i v_from v_n Q w := by kernel_rfl
theorem ref209 {v_i v_from v_n : Value} {Q : Value → World → Prop} {w : World} (h : S209 v_i v_from v_n Q w) : callS Tryz.prog 209 #[v_i, v_from, v_n] Q w :=
  callS_of mix (fun a w => Tryz.call209 a w) (by kernel_rfl) (by rw [eq209]; exact h)
-- commons/commonsbook.markInts
def S210 (v_i v_from v_n : Value) (Q : Value → World → Prop) (w : World) : Prop :=
 lp 2 (fun J => fun v_out v_k w_1 => ∀ _j : Fr, 
  pur Tryz.prog (binS .add 3 false false v_from v_n) fun t13 => 
  pur Tryz.prog (binS .lss 3 false false v_k t13) fun t14 => 
  condS t14
   (pur Tryz.prog (binS .mul 3 true false (.int .i64 (-1000000)) v_i) fun t19 => 
  pur Tryz.prog (binS .sub 3 false false t19 v_k) fun t21 => 
  pur Tryz.prog (binS .sub 3 false true t21 (.int .i64 7)) fun t22 => 
  act Tryz.prog (Instr.buildSlice 64 1 #[(0, t22)]) (fun t23 w_2 => 
  act Tryz.prog (Builtin.append_ #[64, 64] 64 #[v_out, t23]) (fun t24 w_3 => 
  pur Tryz.prog (binS .add 3 false true v_k (.int .i64 1)) fun t16 => 
  J t24 t16 w_3) w_2) w_1)
   (Q v_out w_1)) [(.slice none 0 0), v_from] w
theorem eq210 (v_i v_from v_n : Value) (Q : Value → World → Prop) (w : World) : semF Tryz.prog 210 [v_i, v_from, v_n] Q w = S210 v_i v_from v_n Q w := by kernel_rfl
theorem ref210 {v_i v_from v_n : Value} {Q : Value → World → Prop} {w : World} (h : S210 v_i v_from v_n Q w) : callS Tryz.prog 210 #[v_i, v_from, v_n] Q w :=
  callS_of mix (fun a w => Tryz.call210 a w) (by kernel_rfl) (by rw [eq210]; exact h)
-- commons/commonsbook.markNums
def S211 (v_i v_from v_n : Value) (Q : Value → World → Prop) (w : World) : Prop :=
 lp 2 (fun J => fun v_out v_k w_1 => ∀ _j : Fr, 
  pur Tryz.prog (binS .add 3 false false v_from v_n) fun t13 => 
  pur Tryz.prog (binS .lss 3 false false v_k t13) fun t14 => 
  condS t14
   (pur Tryz.prog (binS .mul 3 true false (.int .i64 1000000) v_i) fun t19 => 
  pur Tryz.prog (binS .add 3 false false t19 v_k) fun t21 => 
  pur Tryz.prog (binS .add 3 false true t21 (.int .i64 7)) fun t22 => 
  pur Tryz.prog (convert 3 136 t22) fun t23 => 
  act Tryz.prog (Instr.buildSlice 222 1 #[(0, t23)]) (fun t24 w_2 => 
  act Tryz.prog (Builtin.append_ #[222, 222] 222 #[v_out, t24]) (fun t25 w_3 => 
  pur Tryz.prog (binS .add 3 false true v_k (.int .i64 1)) fun t16 => 
  J t25 t16 w_3) w_2) w_1)
   (Q v_out w_1)) [(.slice none 0 0), v_from] w
theorem eq211 (v_i v_from v_n : Value) (Q : Value → World → Prop) (w : World) : semF Tryz.prog 211 [v_i, v_from, v_n] Q w = S211 v_i v_from v_n Q w := by kernel_rfl
theorem ref211 {v_i v_from v_n : Value} {Q : Value → World → Prop} {w : World} (h : S211 v_i v_from v_n Q w) : callS Tryz.prog 211 #[v_i, v_from, v_n] Q w :=
  callS_of mix (fun a w => Tryz.call211 a w) (by kernel_rfl) (by rw [eq211]; exact h)
-- commons/commonsbook.markSpans
def S212 (v_i v_from v_n : Value) (Q : Value → World → Prop) (w : World) : Prop :=
 lp 2 (fun J => fun v_out v_k w_1 => ∀ _j : Fr, 
  pur Tryz.prog (binS .add 3 false false v_from v_n) fun t13 => 
  pur Tryz.prog (binS .lss 3 false false v_k t13) fun t14 => 
  condS t14
   (pur Tryz.prog (binS .sub 3 true false (.int .i64 (-1)) v_i) fun t19 => 
  pur Tryz.prog (Instr.build 72 #[(0, t19), (1, v_k)]) fun t21 => 
  act Tryz.prog (Instr.buildSlice 70 1 #[(0, t21)]) (fun t22 w_2 => 
  act Tryz.prog (Builtin.append_ #[70, 70] 70 #[v_out, t22]) (fun t23 w_3 => 
  pur Tryz.prog (binS .add 3 false true v_k (.int .i64 1)) fun t16 => 
  J t23 t16 w_3) w_2) w_1)
   (Q v_out w_1)) [(.slice none 0 0), v_from] w
theorem eq212 (v_i v_from v_n : Value) (Q : Value → World → Prop) (w : World) : semF Tryz.prog 212 [v_i, v_from, v_n] Q w = S212 v_i v_from v_n Q w := by kernel_rfl
theorem ref212 {v_i v_from v_n : Value} {Q : Value → World → Prop} {w : World} (h : S212 v_i v_from v_n Q w) : callS Tryz.prog 212 #[v_i, v_from, v_n] Q w :=
  callS_of mix (fun a w => Tryz.call212 a w) (by kernel_rfl) (by rw [eq212]; exact h)
-- commons/commonsbook.markLocks
def S213 (v_i v_from v_n : Value) (Q : Value → World → Prop) (w : World) : Prop :=
 lp 2 (fun J => fun v_out v_k w_1 => ∀ _j : Fr, 
  pur Tryz.prog (binS .add 3 false false v_from v_n) fun t13 => 
  pur Tryz.prog (binS .lss 3 false false v_k t13) fun t14 => 
  condS t14
   (pur Tryz.prog (binS .sub 3 true false (.int .i64 (-1)) v_i) fun t19 => 
  pur Tryz.prog (Instr.build 72 #[(0, v_k)]) fun t21 => 
  pur Tryz.prog (Instr.build 143 #[(1, t19), (0, t21)]) fun t22 => 
  act Tryz.prog (Instr.buildSlice 109 1 #[(0, t22)]) (fun t23 w_2 => 
  act Tryz.prog (Builtin.append_ #[109, 109] 109 #[v_out, t23]) (fun t24 w_3 => 
  pur Tryz.prog (binS .add 3 false true v_k (.int .i64 1)) fun t16 => 
  J t24 t16 w_3) w_2) w_1)
   (Q v_out w_1)) [(.slice none 0 0), v_from] w
theorem eq213 (v_i v_from v_n : Value) (Q : Value → World → Prop) (w : World) : semF Tryz.prog 213 [v_i, v_from, v_n] Q w = S213 v_i v_from v_n Q w := by kernel_rfl
theorem ref213 {v_i v_from v_n : Value} {Q : Value → World → Prop} {w : World} (h : S213 v_i v_from v_n Q w) : callS Tryz.prog 213 #[v_i, v_from, v_n] Q w :=
  callS_of mix (fun a w => Tryz.call213 a w) (by kernel_rfl) (by rw [eq213]; exact h)
-- commons/commonsbook.markImages
def S214 (v_i v_from v_n : Value) (Q : Value → World → Prop) (w : World) : Prop :=
 lp 2 (fun J => fun v_out v_k w_1 => ∀ _j : Fr, 
  pur Tryz.prog (binS .add 3 false false v_from v_n) fun t13 => 
  pur Tryz.prog (binS .lss 3 false false v_k t13) fun t14 => 
  condS t14
   (pur Tryz.prog (binS .sub 3 true false (.int .i64 (-1)) v_i) fun t19 => 
  pur Tryz.prog (convert 3 136 v_k) fun t21 => 
  pur Tryz.prog (Instr.build 138 #[(0, t19), (1, t21)]) fun t22 => 
  act Tryz.prog (Instr.buildSlice 131 1 #[(0, t22)]) (fun t23 w_2 => 
  act Tryz.prog (Builtin.append_ #[131, 131] 131 #[v_out, t23]) (fun t24 w_3 => 
  pur Tryz.prog (binS .add 3 false true v_k (.int .i64 1)) fun t16 => 
  J t24 t16 w_3) w_2) w_1)
   (Q v_out w_1)) [(.slice none 0 0), v_from] w
theorem eq214 (v_i v_from v_n : Value) (Q : Value → World → Prop) (w : World) : semF Tryz.prog 214 [v_i, v_from, v_n] Q w = S214 v_i v_from v_n Q w := by kernel_rfl
theorem ref214 {v_i v_from v_n : Value} {Q : Value → World → Prop} {w : World} (h : S214 v_i v_from v_n Q w) : callS Tryz.prog 214 #[v_i, v_from, v_n] Q w :=
  callS_of mix (fun a w => Tryz.call214 a w) (by kernel_rfl) (by rw [eq214]; exact h)
-- commons/commonsbook.markPackets
def S215 (v_i v_from v_n : Value) (Q : Value → World → Prop) (w : World) : Prop :=
 lp 2 (fun J => fun v_out v_k w_1 => ∀ _j : Fr, 
  pur Tryz.prog (binS .add 3 false false v_from v_n) fun t13 => 
  pur Tryz.prog (binS .lss 3 false false v_k t13) fun t14 => 
  condS t14
   (pur Tryz.prog (binS .sub 3 true false (.int .i64 (-1)) v_i) fun t19 => 
  pur Tryz.prog (Instr.build 257 #[(0, t19), (1, v_k)]) fun t21 => 
  act Tryz.prog (Instr.buildSlice 226 1 #[(0, t21)]) (fun t22 w_2 => 
  act Tryz.prog (Builtin.append_ #[226, 226] 226 #[v_out, t22]) (fun t23 w_3 => 
  pur Tryz.prog (binS .add 3 false true v_k (.int .i64 1)) fun t16 => 
  J t23 t16 w_3) w_2) w_1)
   (Q v_out w_1)) [(.slice none 0 0), v_from] w
theorem eq215 (v_i v_from v_n : Value) (Q : Value → World → Prop) (w : World) : semF Tryz.prog 215 [v_i, v_from, v_n] Q w = S215 v_i v_from v_n Q w := by kernel_rfl
theorem ref215 {v_i v_from v_n : Value} {Q : Value → World → Prop} {w : World} (h : S215 v_i v_from v_n Q w) : callS Tryz.prog 215 #[v_i, v_from, v_n] Q w :=
  callS_of mix (fun a w => Tryz.call215 a w) (by kernel_rfl) (by rw [eq215]; exact h)
-- commons/commonsbook.markFrames
def S216 (v_i v_from v_n : Value) (Q : Value → World → Prop) (w : World) : Prop :=
 lp 2 (fun J => fun v_out v_k w_1 => ∀ _j : Fr, 
  pur Tryz.prog (binS .add 3 false false v_from v_n) fun t13 => 
  pur Tryz.prog (binS .lss 3 false false v_k t13) fun t14 => 
  condS t14
   (pur Tryz.prog (binS .sub 3 true false (.int .i64 (-1)) v_i) fun t19 => 
  pur Tryz.prog (Instr.build 260 #[(0, t19), (1, v_k)]) fun t21 => 
  act Tryz.prog (Instr.buildSlice 228 1 #[(0, t21)]) (fun t22 w_2 => 
  act Tryz.prog (Builtin.append_ #[228, 228] 228 #[v_out, t22]) (fun t23 w_3 => 
  pur Tryz.prog (binS .add 3 false true v_k (.int .i64 1)) fun t16 => 
  J t23 t16 w_3) w_2) w_1)
   (Q v_out w_1)) [(.slice none 0 0), v_from] w
theorem eq216 (v_i v_from v_n : Value) (Q : Value → World → Prop) (w : World) : semF Tryz.prog 216 [v_i, v_from, v_n] Q w = S216 v_i v_from v_n Q w := by kernel_rfl
theorem ref216 {v_i v_from v_n : Value} {Q : Value → World → Prop} {w : World} (h : S216 v_i v_from v_n Q w) : callS Tryz.prog 216 #[v_i, v_from, v_n] Q w :=
  callS_of mix (fun a w => Tryz.call216 a w) (by kernel_rfl) (by rw [eq216]; exact h)
-- commons/commonsbook.markWaits
def S217 (v_i v_from v_n : Value) (Q : Value → World → Prop) (w : World) : Prop :=
 lp 2 (fun J => fun v_out v_k w_1 => ∀ _j : Fr, 
  pur Tryz.prog (binS .add 3 false false v_from v_n) fun t13 => 
  pur Tryz.prog (binS .lss 3 false false v_k t13) fun t14 => 
  condS t14
   (pur Tryz.prog (binS .sub 3 true false (.int .i64 (-1)) v_i) fun t19 => 
  pur Tryz.prog (Instr.build 263 #[(0, t19), (1, v_k)]) fun t21 => 
  act Tryz.prog (Instr.buildSlice 230 1 #[(0, t21)]) (fun t22 w_2 => 
  act Tryz.prog (Builtin.append_ #[230, 230] 230 #[v_out, t22]) (fun t23 w_3 => 
  pur Tryz.prog (binS .add 3 false true v_k (.int .i64 1)) fun t16 => 
  J t23 t16 w_3) w_2) w_1)
   (Q v_out w_1)) [(.slice none 0 0), v_from] w
theorem eq217 (v_i v_from v_n : Value) (Q : Value → World → Prop) (w : World) : semF Tryz.prog 217 [v_i, v_from, v_n] Q w = S217 v_i v_from v_n Q w := by kernel_rfl
theorem ref217 {v_i v_from v_n : Value} {Q : Value → World → Prop} {w : World} (h : S217 v_i v_from v_n Q w) : callS Tryz.prog 217 #[v_i, v_from, v_n] Q w :=
  callS_of mix (fun a w => Tryz.call217 a w) (by kernel_rfl) (by rw [eq217]; exact h)
-- commons/commonsbook.markRevokes
def S218 (v_i v_from v_n : Value) (Q : Value → World → Prop) (w : World) : Prop :=
 lp 2 (fun J => fun v_out v_k w_1 => ∀ _j : Fr, 
  pur Tryz.prog (binS .add 3 false false v_from v_n) fun t13 => 
  pur Tryz.prog (binS .lss 3 false false v_k t13) fun t14 => 
  condS t14
   (pur Tryz.prog (binS .mul 3 true false (.int .i64 (-1000)) v_i) fun t19 => 
  pur Tryz.prog (binS .sub 3 false false t19 v_k) fun t21 => 
  pur Tryz.prog (binS .sub 3 false true t21 (.int .i64 1)) fun t22 => 
  pur Tryz.prog (Instr.build 266 #[(0, t22)]) fun t23 => 
  act Tryz.prog (Instr.buildSlice 232 1 #[(0, t23)]) (fun t24 w_2 => 
  act Tryz.prog (Builtin.append_ #[232, 232] 232 #[v_out, t24]) (fun t25 w_3 => 
  pur Tryz.prog (binS .add 3 false true v_k (.int .i64 1)) fun t16 => 
  J t25 t16 w_3) w_2) w_1)
   (Q v_out w_1)) [(.slice none 0 0), v_from] w
theorem eq218 (v_i v_from v_n : Value) (Q : Value → World → Prop) (w : World) : semF Tryz.prog 218 [v_i, v_from, v_n] Q w = S218 v_i v_from v_n Q w := by kernel_rfl
theorem ref218 {v_i v_from v_n : Value} {Q : Value → World → Prop} {w : World} (h : S218 v_i v_from v_n Q w) : callS Tryz.prog 218 #[v_i, v_from, v_n] Q w :=
  callS_of mix (fun a w => Tryz.call218 a w) (by kernel_rfl) (by rw [eq218]; exact h)
-- commons/commonsbook.markEntries
def S219 (v_i v_from v_n : Value) (Q : Value → World → Prop) (w : World) : Prop :=
 lp 2 (fun J => fun v_out v_k w_1 => ∀ _j : Fr, 
  pur Tryz.prog (binS .add 3 false false v_from v_n) fun t13 => 
  pur Tryz.prog (binS .lss 3 false false v_k t13) fun t14 => 
  condS t14
   (pur Tryz.prog (binS .mul 3 true false (.int .i64 1000) v_i) fun t19 => 
  pur Tryz.prog (binS .add 3 false false t19 v_k) fun t21 => 
  pur Tryz.prog (binS .add 3 false true t21 (.int .i64 9)) fun t22 => 
  pur Tryz.prog (convert 3 136 t22) fun t23 => 
  pur Tryz.prog (Instr.build 269 #[(2, t23)]) fun t24 => 
  act Tryz.prog (Instr.buildSlice 234 1 #[(0, t24)]) (fun t25 w_2 => 
  act Tryz.prog (Builtin.append_ #[234, 234] 234 #[v_out, t25]) (fun t26 w_3 => 
  pur Tryz.prog (binS .add 3 false true v_k (.int .i64 1)) fun t16 => 
  J t26 t16 w_3) w_2) w_1)
   (Q v_out w_1)) [(.slice none 0 0), v_from] w
theorem eq219 (v_i v_from v_n : Value) (Q : Value → World → Prop) (w : World) : semF Tryz.prog 219 [v_i, v_from, v_n] Q w = S219 v_i v_from v_n Q w := by kernel_rfl
theorem ref219 {v_i v_from v_n : Value} {Q : Value → World → Prop} {w : World} (h : S219 v_i v_from v_n Q w) : callS Tryz.prog 219 #[v_i, v_from, v_n] Q w :=
  callS_of mix (fun a w => Tryz.call219 a w) (by kernel_rfl) (by rw [eq219]; exact h)
-- commons/commonsbook.markParts
def S220 (v_i v_from v_n : Value) (Q : Value → World → Prop) (w : World) : Prop :=
 lp 2 (fun J => fun v_out v_k w_1 => ∀ _j : Fr, 
  pur Tryz.prog (binS .add 3 false false v_from v_n) fun t13 => 
  pur Tryz.prog (binS .lss 3 false false v_k t13) fun t14 => 
  condS t14
   (pur Tryz.prog (binS .mul 3 true false (.int .i64 (-1000)) v_i) fun t19 => 
  pur Tryz.prog (binS .sub 3 false false t19 v_k) fun t21 => 
  pur Tryz.prog (binS .sub 3 false true t21 (.int .i64 1)) fun t22 => 
  pur Tryz.prog (Instr.build 201 #[(1, t22)]) fun t23 => 
  act Tryz.prog (Instr.buildSlice 93 1 #[(0, t23)]) (fun t24 w_2 => 
  act Tryz.prog (Builtin.append_ #[93, 93] 93 #[v_out, t24]) (fun t25 w_3 => 
  pur Tryz.prog (binS .add 3 false true v_k (.int .i64 1)) fun t16 => 
  J t25 t16 w_3) w_2) w_1)
   (Q v_out w_1)) [(.slice none 0 0), v_from] w
theorem eq220 (v_i v_from v_n : Value) (Q : Value → World → Prop) (w : World) : semF Tryz.prog 220 [v_i, v_from, v_n] Q w = S220 v_i v_from v_n Q w := by kernel_rfl
theorem ref220 {v_i v_from v_n : Value} {Q : Value → World → Prop} {w : World} (h : S220 v_i v_from v_n Q w) : callS Tryz.prog 220 #[v_i, v_from, v_n] Q w :=
  callS_of mix (fun a w => Tryz.call220 a w) (by kernel_rfl) (by rw [eq220]; exact h)
-- cmp.isNaN[int]
def S224 (v_x : Value) (Q : Value → World → Prop) (w : World) : Prop :=
 pur Tryz.prog (binS .neq 3 false false v_x v_x) fun t5 => 
 Q t5 w
theorem eq224 (v_x : Value) (Q : Value → World → Prop) (w : World) : semF Tryz.prog 224 [v_x] Q w = S224 v_x Q w := by kernel_rfl
theorem ref224 {v_x : Value} {Q : Value → World → Prop} {w : World} (h : S224 v_x Q w) : callS Tryz.prog 224 #[v_x] Q w :=
  callS_of mix (fun a w => Tryz.call224 a w) (by kernel_rfl) (by rw [eq224]; exact h)
-- commons/commonsbook.sameMsg
def S238 (v_a v_b : Value) (Q : Value → World → Prop) (w : World) : Prop :=
 act Tryz.prog (Instr.box 245 v_a) (fun t2 w_1 => 
 act Tryz.prog (Instr.box 245 v_b) (fun t3 w_2 => 
 pur Tryz.prog (Instr.fieldAt 245 t2 0) fun t5 => 
 rd Tryz.prog (Instr.loadAt 3 t5) (fun t6 => 
 pur Tryz.prog (Instr.fieldAt 245 t3 0) fun t7 => 
 rd Tryz.prog (Instr.loadAt 3 t7) (fun t8 => 
 pur Tryz.prog (binS .eql 3 false false t6 t8) fun t9 => 
 gd t9 true (fun k w_3 => pur Tryz.prog (Instr.fieldAt 245 t2 1) fun t11 => k t11 w_3) (fun t11_1 w_4 => 
 gd t9 true (fun k_1 w_5 => rd Tryz.prog (Instr.loadAt 3 t11_1) (fun t12 => k_1 t12 w_5) w_5) (fun t12_1 w_6 => 
 gd t9 true (fun k_2 w_7 => pur Tryz.prog (Instr.fieldAt 245 t3 1) fun t13 => k_2 t13 w_7) (fun t13_1 w_8 => 
 gd t9 true (fun k_3 w_9 => rd Tryz.prog (Instr.loadAt 3 t13_1) (fun t14 => k_3 t14 w_9) w_9) (fun t14_1 w_10 => 
 gd t9 true (fun k_4 w_11 => pur Tryz.prog (binS .eql 3 false false t12_1 t14_1) fun t15 => k_4 t15 w_11) (fun t15_1 w_12 => 
 pur Tryz.prog (pickS t9 t15_1 (.bool false)) fun t16 => 
 gd t16 true (fun k_5 w_13 => pur Tryz.prog (Instr.fieldAt 245 t2 2) fun t18 => k_5 t18 w_13) (fun t18_1 w_14 => 
 gd t16 true (fun k_6 w_15 => rd Tryz.prog (Instr.loadAt 3 t18_1) (fun t19 => k_6 t19 w_15) w_15) (fun t19_1 w_16 => 
 gd t16 true (fun k_7 w_17 => pur Tryz.prog (Instr.fieldAt 245 t3 2) fun t20 => k_7 t20 w_17) (fun t20_1 w_18 => 
 gd t16 true (fun k_8 w_19 => rd Tryz.prog (Instr.loadAt 3 t20_1) (fun t21 => k_8 t21 w_19) w_19) (fun t21_1 w_20 => 
 gd t16 true (fun k_9 w_21 => pur Tryz.prog (binS .eql 3 false false t19_1 t21_1) fun t22 => k_9 t22 w_21) (fun t22_1 w_22 => 
 pur Tryz.prog (pickS t16 t22_1 (.bool false)) fun t23 => 
 gd t23 true (fun k_10 w_23 => pur Tryz.prog (Instr.fieldAt 245 t2 3) fun t25 => k_10 t25 w_23) (fun t25_1 w_24 => 
 gd t23 true (fun k_11 w_25 => rd Tryz.prog (Instr.loadAt 3 t25_1) (fun t26 => k_11 t26 w_25) w_25) (fun t26_1 w_26 => 
 gd t23 true (fun k_12 w_27 => pur Tryz.prog (Instr.fieldAt 245 t3 3) fun t27 => k_12 t27 w_27) (fun t27_1 w_28 => 
 gd t23 true (fun k_13 w_29 => rd Tryz.prog (Instr.loadAt 3 t27_1) (fun t28 => k_13 t28 w_29) w_29) (fun t28_1 w_30 => 
 gd t23 true (fun k_14 w_31 => pur Tryz.prog (binS .eql 3 false false t26_1 t28_1) fun t29 => k_14 t29 w_31) (fun t29_1 w_32 => 
 pur Tryz.prog (pickS t23 t29_1 (.bool false)) fun t30 => 
 gd t30 true (fun k_15 w_33 => pur Tryz.prog (Instr.fieldAt 245 t2 4) fun t32 => k_15 t32 w_33) (fun t32_1 w_34 => 
 gd t30 true (fun k_16 w_35 => rd Tryz.prog (Instr.loadAt 3 t32_1) (fun t33 => k_16 t33 w_35) w_35) (fun t33_1 w_36 => 
 gd t30 true (fun k_17 w_37 => pur Tryz.prog (Instr.fieldAt 245 t3 4) fun t34 => k_17 t34 w_37) (fun t34_1 w_38 => 
 gd t30 true (fun k_18 w_39 => rd Tryz.prog (Instr.loadAt 3 t34_1) (fun t35 => k_18 t35 w_39) w_39) (fun t35_1 w_40 => 
 gd t30 true (fun k_19 w_41 => pur Tryz.prog (binS .eql 3 false false t33_1 t35_1) fun t36 => k_19 t36 w_41) (fun t36_1 w_42 => 
 pur Tryz.prog (pickS t30 t36_1 (.bool false)) fun t37 => 
 gd t37 true (fun k_20 w_43 => pur Tryz.prog (Instr.fieldAt 245 t2 5) fun t39 => k_20 t39 w_43) (fun t39_1 w_44 => 
 gd t37 true (fun k_21 w_45 => rd Tryz.prog (Instr.loadAt 136 t39_1) (fun t40 => k_21 t40 w_45) w_45) (fun t40_1 w_46 => 
 gd t37 true (fun k_22 w_47 => pur Tryz.prog (Instr.fieldAt 245 t3 5) fun t41 => k_22 t41 w_47) (fun t41_1 w_48 => 
 gd t37 true (fun k_23 w_49 => rd Tryz.prog (Instr.loadAt 136 t41_1) (fun t42 => k_23 t42 w_49) w_49) (fun t42_1 w_50 => 
 gd t37 true (fun k_24 w_51 => pur Tryz.prog (binS .eql 136 false false t40_1 t42_1) fun t43 => k_24 t43 w_51) (fun t43_1 w_52 => 
 pur Tryz.prog (pickS t37 t43_1 (.bool false)) fun t44 => 
 gd t44 true (fun k_25 w_53 => pur Tryz.prog (Instr.fieldAt 245 t2 6) fun t46 => k_25 t46 w_53) (fun t46_1 w_54 => 
 gd t44 true (fun k_26 w_55 => rd Tryz.prog (Instr.loadAt 126 t46_1) (fun t47 => k_26 t47 w_55) w_55) (fun t47_1 w_56 => 
 gd t44 true (fun k_27 w_57 => pur Tryz.prog (Instr.fieldAt 245 t3 6) fun t48 => k_27 t48 w_57) (fun t48_1 w_58 => 
 gd t44 true (fun k_28 w_59 => rd Tryz.prog (Instr.loadAt 126 t48_1) (fun t49 => k_28 t49 w_59) w_59) (fun t49_1 w_60 => 
 gd t44 true (fun k_29 w_61 => pur Tryz.prog (binS .eql 126 false false t47_1 t49_1) fun t50 => k_29 t50 w_61) (fun t50_1 w_62 => 
 pur Tryz.prog (pickS t44 t50_1 (.bool false)) fun t51 => 
 gd t51 true (fun k_30 w_63 => pur Tryz.prog (Instr.fieldAt 245 t2 7) fun t53 => k_30 t53 w_63) (fun t53_1 w_64 => 
 gd t51 true (fun k_31 w_65 => rd Tryz.prog (Instr.loadAt 109 t53_1) (fun t54 => k_31 t54 w_65) w_65) (fun t54_1 w_66 => 
 gd t51 true (fun k_32 w_67 => pur Tryz.prog (Instr.fieldAt 245 t3 7) fun t55 => k_32 t55 w_67) (fun t55_1 w_68 => 
 gd t51 true (fun k_33 w_69 => rd Tryz.prog (Instr.loadAt 109 t55_1) (fun t56 => k_33 t56 w_69) w_69) (fun t56_1 w_70 => 
 gd t51 true (fun k_34 w_71 => callS Tryz.prog 69 #[t54_1, t56_1] (fun t57 w_72 => k_34 t57 w_72) w_71) (fun t57_1 w_73 => 
 pur Tryz.prog (pickS t51 t57_1 (.bool false)) fun t58 => 
 Q t58 w_73) w_70) w_68) w_66) w_64) w_62) w_60) w_58) w_56) w_54) w_52) w_50) w_48) w_46) w_44) w_42) w_40) w_38) w_36) w_34) w_32) w_30) w_28) w_26) w_24) w_22) w_20) w_18) w_16) w_14) w_12) w_10) w_8) w_6) w_4) w_2) w_2) w_2) w_1) w
theorem eq238 (v_a v_b : Value) (Q : Value → World → Prop) (w : World) : semF Tryz.prog 238 [v_a, v_b] Q w = S238 v_a v_b Q w := by kernel_rfl
theorem ref238 {v_a v_b : Value} {Q : Value → World → Prop} {w : World} (h : S238 v_a v_b Q w) : callS Tryz.prog 238 #[v_a, v_b] Q w :=
  callS_of mix (fun a w => Tryz.call238 a w) (by kernel_rfl) (by rw [eq238]; exact h)
-- commons/commonsbook.name
def S239 (v_i v_k : Value) (Q : Value → World → Prop) (w : World) : Prop :=
 pur Tryz.prog (binS .rem 3 false true v_i (.int .i64 26)) fun t6 => 
 pur Tryz.prog (binS .add 3 true false (.int .i64 65) t6) fun t7 => 
 pur Tryz.prog (convert 3 5 t7) fun t8 => 
 pur Tryz.prog (binS .quo 3 false true v_i (.int .i64 26)) fun t10 => 
 pur Tryz.prog (binS .rem 3 false true t10 (.int .i64 26)) fun t11 => 
 pur Tryz.prog (binS .add 3 true false (.int .i64 65) t11) fun t12 => 
 pur Tryz.prog (convert 3 5 t12) fun t13 => 
 pur Tryz.prog (binS .rem 3 false true v_k (.int .i64 10)) fun t15 => 
 pur Tryz.prog (binS .add 3 true false (.int .i64 48) t15) fun t16 => 
 pur Tryz.prog (convert 3 5 t16) fun t17 => 
 pur Tryz.prog (binS .quo 3 false true v_k (.int .i64 10)) fun t19 => 
 pur Tryz.prog (binS .rem 3 false true t19 (.int .i64 10)) fun t20 => 
 pur Tryz.prog (binS .add 3 true false (.int .i64 48) t20) fun t21 => 
 pur Tryz.prog (convert 3 5 t21) fun t22 => 
 pur Tryz.prog (binS .quo 3 false true v_k (.int .i64 100)) fun t24 => 
 pur Tryz.prog (binS .rem 3 false true t24 (.int .i64 10)) fun t25 => 
 pur Tryz.prog (binS .add 3 true false (.int .i64 48) t25) fun t26 => 
 pur Tryz.prog (convert 3 5 t26) fun t27 => 
 act Tryz.prog (Instr.buildSlice 212 6 #[(0, (.int .u8 109)), (1, t8), (2, t13), (3, t17), (4, t22), (5, t27)]) (fun t28 w_1 => 
 act Tryz.prog (convert 212 9 t28) (fun t29 w_2 => 
 Q t29 w_2) w_1) w
theorem eq239 (v_i v_k : Value) (Q : Value → World → Prop) (w : World) : semF Tryz.prog 239 [v_i, v_k] Q w = S239 v_i v_k Q w := by kernel_rfl
theorem ref239 {v_i v_k : Value} {Q : Value → World → Prop} {w : World} (h : S239 v_i v_k Q w) : callS Tryz.prog 239 #[v_i, v_k] Q w :=
  callS_of mix (fun a w => Tryz.call239 a w) (by kernel_rfl) (by rw [eq239]; exact h)
end Go.Proofs.YtndjohbbaplekaaGreatH
