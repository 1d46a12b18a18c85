/- The readings of the functions' code, printed by a program, each held equal to the one that is computed: for all arguments, all worlds.
   Conditions: none. -/
import Derived.Test.YtndjohbbaplekaaGreatXShC
import Derived.Test.YtndjohbbaplekaaGreatProg
import Derived.KernelRfl
set_option linter.unusedSimpArgs false
set_option linter.unusedVariables false
namespace Go.Proofs.YtndjohbbaplekaaGreatX
open Go.Sh
set_option maxRecDepth 100000
theorem mix : Tryz.prog.follows .mixedOrders = true := by kernel_rfl




-- commons/commonslaw24.TxPlays
def S7 (v_s v_own v_l v_ops : Value) (Q : Value → World → Prop) (w : World) : Prop :=
 act Tryz.prog (Instr.box 122 v_s) (fun t4 w_1 => 
 pur Tryz.prog (Builtin.len_ #[109] 3 #[v_l]) fun t39 => 
 pur Tryz.prog (binS .gtr 3 false true t39 (.int .i64 30)) fun t40 => 
 gd t40 false (fun k w_2 => k v_ops w_2) (fun t42_1 w_3 => 
 gd t40 false (fun k_1 w_4 => pur Tryz.prog (Builtin.len_ #[123] 3 #[t42_1]) fun t43 => k_1 t43 w_4) (fun t43_1 w_5 => 
 gd t40 false (fun k_2 w_6 => pur Tryz.prog (binS .gtr 3 false true t43_1 (.int .i64 60)) fun t44 => k_2 t44 w_6) (fun t44_1 w_7 => 
 pur Tryz.prog (pickS t40 (.bool true) t44_1) fun t45 => 
 condS t45
  (callS Tryz.prog 74 #[] (fun t46 w_8 => 
  Q t46 w_8) w_7)
  (jn 0 (fun J => 
  condS v_own
   (callS Tryz.prog 75 #[] (fun t48 w_9 => 
   act Tryz.prog (thenU (Instr.storeAt 122 t4 t48)) (fun _ w_10 => 
   J  w_10) w_9) w_7)
   (J  w_7))
 (fun  w_11 => ∀ _j : Fr, 
  callS Tryz.prog 64 #[v_l] (fun t50 w_12 => 
  rd Tryz.prog (Instr.loadAt 122 t4) (fun t52 => 
  callS Tryz.prog 76 #[t52, t50] (fun t54 w_13 => 
  pur Tryz.prog (Instr.extract t54 0) fun t55 => 
  pur Tryz.prog (Instr.extract t54 1) fun t56 => 
  rd Tryz.prog (Instr.loadAt 122 t4) (fun t57 => 
  callS Tryz.prog 77 #[t57, v_l] (fun t59 w_14 => 
  pur Tryz.prog (binS .neq 126 false false t56 t59) fun t62 => 
  gd t62 false (fun k_3 w_15 => rd Tryz.prog (Instr.loadAt 122 t4) (fun t64 => k_3 t64 w_15) w_15) (fun t64_1 w_16 => 
  gd t62 false (fun k_4 w_17 => k_4 t50 w_17) (fun t65_1 w_18 => 
  gd t62 false (fun k_5 w_19 => callS Tryz.prog 78 #[t64_1, t65_1] (fun t66 w_20 => k_5 t66 w_20) w_19) (fun t66_1 w_21 => 
  gd t62 false (fun k_6 w_22 => k_6 t59 w_22) (fun t67_1 w_23 => 
  gd t62 false (fun k_7 w_24 => pur Tryz.prog (binS .neq 126 false false t66_1 t67_1) fun t68 => k_7 t68 w_24) (fun t68_1 w_25 => 
  pur Tryz.prog (pickS t62 (.bool true) t68_1) fun t69 => 
  gd t69 false (fun k_8 w_26 => k_8 t55 w_26) (fun t71_1 w_27 => 
  gd t69 false (fun k_9 w_28 => rd Tryz.prog (binS .neq 125 false true t71_1 (.pointer none)) (fun t72 => k_9 t72 w_28) w_28) (fun t72_1 w_29 => 
  gd t69 false (fun k_10 w_30 => k_10 t59 w_30) (fun t73_1 w_31 => 
  gd t69 false (fun k_11 w_32 => pur Tryz.prog (binS .eql 126 false true t73_1 (.int .i64 0)) fun t74 => k_11 t74 w_32) (fun t74_1 w_33 => 
  gd t69 false (fun k_12 w_34 => pur Tryz.prog (binS .neq 4 false false t72_1 t74_1) fun t75 => k_12 t75 w_34) (fun t75_1 w_35 => 
  pur Tryz.prog (pickS t69 (.bool true) t75_1) fun t76 => 
  gd t76 false (fun k_13 w_36 => k_13 t50 w_36) (fun t78_1 w_37 => 
  gd t76 false (fun k_14 w_38 => k_14 v_l w_38) (fun t79_1 w_39 => 
  gd t76 false (fun k_15 w_40 => callS Tryz.prog 73 #[t78_1, t79_1] (fun t80 w_41 => k_15 t80 w_41) w_40) (fun t80_1 w_42 => 
  gd t76 false (fun k_16 w_43 => pur Tryz.prog (Op.unary .not t80_1) fun t81 => k_16 t81 w_43) (fun t81_1 w_44 => 
  pur Tryz.prog (pickS t76 (.bool true) t81_1) fun t82 => 
  condS t82
   (Q (.bool false) w_44)
   (rd Tryz.prog (binS .eql 125 false true t55 (.pointer none)) (fun t84 => 
  condS t84
   (callS Tryz.prog 74 #[] (fun t85 w_45 => 
   Q t85 w_45) w_44)
   (callS Tryz.prog 71 #[v_l] (fun t87 w_46 => 
  pur Tryz.prog (Instr.build 51 #[]) fun t88 => 
  act Tryz.prog (Instr.box 51 t88) (fun t89 w_47 => 
  ∃ S : World → Prop, S (World.drew w_47) ∧ 
  pur Tryz.prog (Instr.fieldAt 122 t4 2) fun t90 => 
  hld Tryz.prog S (Instr.loadAt 3 t90) fun t91 => 
  callS Tryz.prog 79 #[t91] (fun t92 w_48 => S w_48 ∧ 
  pur Tryz.prog (Instr.fieldAt 122 t4 3) fun t93 => 
  hld Tryz.prog S (Instr.loadAt 3 t93) fun t94 => 
  pur Tryz.prog (Builtin.min_ #[3, 3] 3 #[t92, t94]) fun t95 => 
  lp 4 (fun J_1 => fun v_locks v_wrote v_read v_i w_49 => ∀ _j : Fr, 
   pur Tryz.prog (Builtin.len_ #[123] 3 #[v_ops]) fun t98 => 
   pur Tryz.prog (binS .lss 3 false false v_i t98) fun t99 => 
   condS t99
    (pur Tryz.prog (Instr.indexAt 123 v_ops v_i) fun t104 => 
   rd Tryz.prog (Instr.loadAt 133 t104) (fun t105 => 
   act Tryz.prog (Instr.alloc 133 true (.tuple #[])) (fun t19 w_50 => 
   act Tryz.prog (thenU (Instr.storeAt 133 t19 t105)) (fun _ w_51 => 
   pur Tryz.prog (Instr.fieldAt 133 t19 2) fun t106 => 
   rd Tryz.prog (Instr.loadAt 9 t106) (fun t107 => 
   pur Tryz.prog (Builtin.len_ #[9] 3 #[t107]) fun t108 => 
   pur Tryz.prog (binS .gtr 3 false true t108 (.int .i64 300)) fun t109 => 
   condS t109
    (Q (.bool true) w_51)
    (pur Tryz.prog (Instr.fieldAt 133 t19 1) fun t112 => 
   rd Tryz.prog (Instr.loadAt 3 t112) (fun t113 => 
   callS Tryz.prog 58 #[v_locks, t113] (fun t114 w_52 => 
   pur Tryz.prog (Instr.extract t114 0) fun t115 => 
   pur Tryz.prog (Instr.extract t114 1) fun t116 => 
   pur Tryz.prog (Instr.fieldAt 133 t19 2) fun t118 => 
   rd Tryz.prog (Instr.loadAt 9 t118) (fun t119 => 
   callS Tryz.prog 80 #[t119] (fun t120 w_53 => 
   pur Tryz.prog (Instr.extract t120 0) fun t121 => 
   pur Tryz.prog (Instr.extract t120 1) fun t122 => 
   lp 2 (fun J_2 => fun v_known v_k w_54 => ∀ _j : Fr, 
    pur Tryz.prog (Builtin.len_ #[131] 3 #[v_wrote]) fun t125 => 
    pur Tryz.prog (binS .lss 3 false false v_k t125) fun t126 => 
    condS t126
     (gd v_known false (fun k_17 w_55 => k_17 v_wrote w_55) (fun t131_1 w_56 => 
    gd v_known false (fun k_18 w_57 => k_18 v_k w_57) (fun t132_1 w_58 => 
    gd v_known false (fun k_19 w_59 => pur Tryz.prog (Instr.indexAt 131 t131_1 t132_1) fun t133 => k_19 t133 w_59) (fun t133_1 w_60 => 
    gd v_known false (fun k_20 w_61 => pur Tryz.prog (Instr.fieldAt 138 t133_1 0) fun t134 => k_20 t134 w_61) (fun t134_1 w_62 => 
    gd v_known false (fun k_21 w_63 => rd Tryz.prog (Instr.loadAt 3 t134_1) (fun t135 => k_21 t135 w_63) w_63) (fun t135_1 w_64 => 
    gd v_known false (fun k_22 w_65 => pur Tryz.prog (Instr.fieldAt 133 t19 1) fun t136 => k_22 t136 w_65) (fun t136_1 w_66 => 
    gd v_known false (fun k_23 w_67 => rd Tryz.prog (Instr.loadAt 3 t136_1) (fun t137 => k_23 t137 w_67) w_67) (fun t137_1 w_68 => 
    gd v_known false (fun k_24 w_69 => pur Tryz.prog (binS .eql 3 false false t135_1 t137_1) fun t138 => k_24 t138 w_69) (fun t138_1 w_70 => 
    pur Tryz.prog (pickS v_known (.bool true) t138_1) fun t139 => 
    pur Tryz.prog (binS .add 3 false true v_k (.int .i64 1)) fun t128 => 
    J_2 t139 t128 w_70) w_68) w_66) w_64) w_62) w_60) w_58) w_56) (World.drew w_54))
     (jn 3 (fun J_3 => 
    pur Tryz.prog (Instr.fieldAt 133 t19 0) fun t140 => 
    rd Tryz.prog (Instr.loadAt 3 t140) (fun t141 => 
    pur Tryz.prog (binS .eql 3 false true t141 (.int .i64 1)) fun t184 => 
    condS t184
     (jn 1 (fun J_4 => 
      pur Tryz.prog (Op.unary .not t116) fun t187 => 
      condS t187
       (J_4 (.int .i64 30) w_54)
       (pur Tryz.prog (binS .neq 126 false true t122 (.int .i64 0)) fun t190 => 
       condS t190
        (J_4 t122 w_54)
        (pur Tryz.prog (binS .neq 3 false true t115 (.int .i64 2)) fun t194 => 
        condS t194
         (J_4 (.int .i64 13) w_54)
         (pur Tryz.prog (Op.unary .not v_known) fun t197 => 
         gd t197 true (fun k_25 w_71 => k_25 v_wrote w_71) (fun t199_1 w_72 => 
         gd t197 true (fun k_26 w_73 => pur Tryz.prog (Builtin.len_ #[131] 3 #[t199_1]) fun t200 => k_26 t200 w_73) (fun t200_1 w_74 => 
         gd t197 true (fun k_27 w_75 => k_27 t95 w_75) (fun t201_1 w_76 => 
         gd t197 true (fun k_28 w_77 => pur Tryz.prog (binS .geq 3 false false t200_1 t201_1) fun t202 => k_28 t202 w_77) (fun t202_1 w_78 => 
         pur Tryz.prog (pickS t197 t202_1 (.bool false)) fun t203 => 
         condS t203
          (J_4 (.int .i64 31) w_78)
          (J_4 (.int .i64 0) w_78)) w_76) w_74) w_72) w_54))))
     (fun v_want w_79 => ∀ _j : Fr, 
      pur Tryz.prog (Instr.fieldAt 133 t19 1) fun t205 => 
      rd Tryz.prog (Instr.loadAt 3 t205) (fun t206 => 
      pur Tryz.prog (Instr.fieldAt 133 t19 2) fun t207 => 
      rd Tryz.prog (Instr.loadAt 9 t207) (fun t208 => 
      callS Tryz.prog 81 #[t55, t206, t208] (fun t209 w_80 => 
      pur Tryz.prog (binS .neq 126 false false t209 v_want) fun t211 => 
      condS t211
       (Q (.bool false) w_80)
       (pur Tryz.prog (binS .eql 126 false true v_want (.int .i64 0)) fun t213 => 
      condS t213
       (pur Tryz.prog (Instr.fieldAt 133 t19 1) fun t215 => 
       rd Tryz.prog (Instr.loadAt 3 t215) (fun t216 => 
       pur Tryz.prog (Instr.build 138 #[(0, t216), (2, t121)]) fun t218 => 
       callS Tryz.prog 82 #[v_wrote, t218, (.bool true)] (fun t219 w_81 => 
       J_3 v_locks t219 v_read w_81) w_80) w_80)
       (J_3 v_locks v_wrote v_read w_80))) w_79) w_79) w_79))
     (pur Tryz.prog (binS .eql 3 false true t141 (.int .i64 2)) fun t221 => 
     condS t221
      (pur Tryz.prog (Instr.fieldAt 133 t19 1) fun t223 => 
      rd Tryz.prog (Instr.loadAt 3 t223) (fun t224 => 
      pur Tryz.prog (Instr.fieldAt 133 t19 2) fun t225 => 
      rd Tryz.prog (Instr.loadAt 9 t225) (fun t226 => 
      callS Tryz.prog 83 #[t55, t224, t226] (fun _ w_82 => 
      pur Tryz.prog (Instr.fieldAt 133 t19 1) fun t229 => 
      rd Tryz.prog (Instr.loadAt 3 t229) (fun t230 => 
      pur Tryz.prog (Instr.fieldAt 133 t19 2) fun t231 => 
      rd Tryz.prog (Instr.loadAt 9 t231) (fun t232 => 
      pur Tryz.prog (Instr.build 138 #[(0, t230), (2, t232)]) fun t233 => 
      callS Tryz.prog 82 #[v_read, t233, (.bool false)] (fun t234 w_83 => 
      J_3 v_locks v_wrote t234 w_83) w_82) w_82) w_82) w_54) w_54) w_54)
      (pur Tryz.prog (Instr.fieldAt 133 t19 1) fun t144 => 
      rd Tryz.prog (Instr.loadAt 3 t144) (fun t145 => 
      callS Tryz.prog 84 #[t55, t145] (fun t146 w_84 => 
      pur Tryz.prog (Instr.extract t146 0) fun t147 => 
      pur Tryz.prog (Instr.extract t146 1) fun t148 => 
      act Tryz.prog (Instr.alloc 143 true (.tuple #[])) (fun t27 w_85 => 
      act Tryz.prog (thenU (Instr.storeAt 143 t27 t147)) (fun _ w_86 => 
      gd t116 true (fun k_29 w_87 => k_29 t115 w_87) (fun t151_1 w_88 => 
      gd t116 true (fun k_30 w_89 => pur Tryz.prog (binS .eql 3 false true t151_1 (.int .i64 1)) fun t152 => k_30 t152 w_89) (fun t152_1 w_90 => 
      pur Tryz.prog (pickS t116 t152_1 (.bool false)) fun t153 => 
      pur Tryz.prog (binS .neq 4 false false t148 t153) fun t156 => 
      gd t156 false (fun k_31 w_91 => k_31 t153 w_91) (fun t158_1 w_92 => 
      gd t156 false (fun k_32 w_93 => k_32 t158_1 w_93) (fun t159_1 w_94 => 
      gd t159_1 true (fun k_33 w_95 => rd Tryz.prog (Instr.loadAt 143 t27) (fun t160 => k_33 t160 w_95) w_95) (fun t160_1 w_96 => 
      gd t159_1 true (fun k_34 w_97 => pur Tryz.prog (Instr.fieldAt 133 t19 1) fun t161 => k_34 t161 w_97) (fun t161_1 w_98 => 
      gd t159_1 true (fun k_35 w_99 => rd Tryz.prog (Instr.loadAt 3 t161_1) (fun t162 => k_35 t162 w_99) w_99) (fun t162_1 w_100 => 
      gd t159_1 true (fun k_36 w_101 => pur Tryz.prog (Instr.fieldAt 133 t19 1) fun t163 => k_36 t163 w_101) (fun t163_1 w_102 => 
      gd t159_1 true (fun k_37 w_103 => rd Tryz.prog (Instr.loadAt 3 t163_1) (fun t164 => k_37 t164 w_103) w_103) (fun t164_1 w_104 => 
      gd t159_1 true (fun k_38 w_105 => pur Tryz.prog (binS .add 3 false true t164_1 (.int .i64 1)) fun t165 => k_38 t165 w_105) (fun t165_1 w_106 => 
      gd t159_1 true (fun k_39 w_107 => pur Tryz.prog (Instr.build 72 #[(0, t162_1), (1, t165_1)]) fun t166 => k_39 t166 w_107) (fun t166_1 w_108 => 
      gd t159_1 true (fun k_40 w_109 => pur Tryz.prog (Instr.build 143 #[(0, t166_1), (1, (.int .i64 2))]) fun t167 => k_40 t167 w_109) (fun t167_1 w_110 => 
      gd t159_1 true (fun k_41 w_111 => rd Tryz.prog (binS .neq 143 false false t160_1 t167_1) (fun t168 => k_41 t168 w_111) w_111) (fun t168_1 w_112 => 
      gd t156 false (fun k_42 w_113 => pur Tryz.prog (pickS t159_1 t168_1 (.bool false)) fun t169 => k_42 t169 w_113) (fun t169_1 w_114 => 
      pur Tryz.prog (pickS t156 (.bool true) t169_1) fun t170 => 
      gd t170 false (fun k_43 w_115 => k_43 t55 w_115) (fun t172_1 w_116 => 
      gd t170 false (fun k_44 w_117 => pur Tryz.prog (Instr.fieldAt 133 t19 1) fun t173 => k_44 t173 w_117) (fun t173_1 w_118 => 
      gd t170 false (fun k_45 w_119 => rd Tryz.prog (Instr.loadAt 3 t173_1) (fun t174 => k_45 t174 w_119) w_119) (fun t174_1 w_120 => 
      gd t170 false (fun k_46 w_121 => callS Tryz.prog 85 #[t172_1, t174_1] (fun t175 w_122 => k_46 t175 w_122) w_121) (fun t175_1 w_123 => 
      gd t170 false (fun k_47 w_124 => k_47 t153 w_124) (fun t176_1 w_125 => 
      gd t170 false (fun k_48 w_126 => pur Tryz.prog (binS .neq 4 false false t175_1 t176_1) fun t177 => k_48 t177 w_126) (fun t177_1 w_127 => 
      pur Tryz.prog (pickS t170 (.bool true) t177_1) fun t178 => 
      condS t178
       (Q (.bool false) w_127)
       (condS t153
       (rd Tryz.prog (Instr.loadAt 143 t27) (fun t181 => 
       callS Tryz.prog 86 #[v_locks, t181] (fun t182 w_128 => 
       J_3 t182 v_wrote v_read w_128) w_127) w_127)
       (J_3 v_locks v_wrote v_read w_127))) w_125) w_123) w_120) w_118) w_116) w_114) w_112) w_110) w_108) w_106) w_104) w_102) w_100) w_98) w_96) w_94) w_92) w_90) w_88) w_86) w_85) w_84) w_54) w_54))) w_54)
   (fun v_locks_1 v_wrote_1 v_read_1 w_129 => ∀ _j : Fr, 
    pur Tryz.prog (Instr.fieldAt 133 t19 1) fun t237 => 
    rd Tryz.prog (Instr.loadAt 3 t237) (fun t238 => 
    callS Tryz.prog 58 #[v_locks_1, t238] (fun t239 w_130 => 
    pur Tryz.prog (Instr.extract t239 0) fun _ => 
    pur Tryz.prog (Instr.extract t239 1) fun t241 => 
    jn 1 (fun J_5 => 
     pur Tryz.prog (Op.unary .not t241) fun t243 => 
     condS t243
      (J_5 (.int .i64 30) w_130)
      (J_5 (.int .i64 0) w_130))
    (fun v_want_1 w_131 => ∀ _j : Fr, 
     callS Tryz.prog 87 #[t55] (fun t245 w_132 => 
     callS Tryz.prog 88 #[t55] (fun t247 w_133 => 
     callS Tryz.prog 89 #[t55] (fun t249 w_134 => 
     callS Tryz.prog 67 #[t89, t245] (fun _ w_135 => 
     callS Tryz.prog 90 #[t89, t247] (fun _ w_136 => 
     callS Tryz.prog 90 #[t89, t249] (fun _ w_137 => 
     pur Tryz.prog (Instr.fieldAt 133 t19 1) fun t261 => 
     rd Tryz.prog (Instr.loadAt 3 t261) (fun t262 => 
     callS Tryz.prog 91 #[t55, t262] (fun t263 w_138 => 
     pur Tryz.prog (Instr.extract t263 0) fun t264 => 
     pur Tryz.prog (Instr.extract t263 1) fun t265 => 
     lp 2 (fun J_6 => fun v_there v_k_1 w_139 => ∀ _j : Fr, 
      pur Tryz.prog (Builtin.len_ #[131] 3 #[v_wrote_1]) fun t268 => 
      pur Tryz.prog (binS .lss 3 false false v_k_1 t268) fun t269 => 
      condS t269
       (jn 1 (fun J_7 => 
       pur Tryz.prog (Instr.indexAt 131 v_wrote_1 v_k_1) fun t274 => 
       pur Tryz.prog (Instr.fieldAt 138 t274 0) fun t275 => 
       rd Tryz.prog (Instr.loadAt 3 t275) (fun t276 => 
       pur Tryz.prog (Instr.fieldAt 133 t19 1) fun t277 => 
       rd Tryz.prog (Instr.loadAt 3 t277) (fun t278 => 
       pur Tryz.prog (binS .eql 3 false false t276 t278) fun t279 => 
       condS t279
        (pur Tryz.prog (Instr.indexAt 131 v_wrote_1 v_k_1) fun t283 => 
        pur Tryz.prog (Instr.fieldAt 138 t283 2) fun t284 => 
        rd Tryz.prog (Instr.loadAt 9 t284) (fun t285 => 
        pur Tryz.prog (binS .neq 9 false false t264 t285) fun t286 => 
        condS t286
         (Q (.bool false) (World.drew w_139))
         (J_7 (.bool true) (World.drew w_139))) (World.drew w_139))
        (J_7 v_there (World.drew w_139))) (World.drew w_139)) (World.drew w_139))
      (fun v_there_1 w_140 => ∀ _j : Fr, 
       pur Tryz.prog (binS .add 3 false true v_k_1 (.int .i64 1)) fun t271 => 
       J_6 v_there_1 t271 w_140))
       (pur Tryz.prog (Instr.fieldAt 133 t19 1) fun t288 => 
     rd Tryz.prog (Instr.loadAt 3 t288) (fun t289 => 
     callS Tryz.prog 92 #[t55, t289] (fun t290 w_141 => 
     pur Tryz.prog (binS .neq 126 false false t290 v_want_1) fun t292 => 
     gd t292 false (fun k_49 w_142 => k_49 t265 w_142) (fun t294_1 w_143 => 
     gd t292 false (fun k_50 w_144 => k_50 v_there w_144) (fun t295_1 w_145 => 
     gd t292 false (fun k_51 w_146 => pur Tryz.prog (binS .neq 4 false false t294_1 t295_1) fun t296 => k_51 t296 w_146) (fun t296_1 w_147 => 
     pur Tryz.prog (pickS t292 (.bool true) t296_1) fun t297 => 
     gd t297 false (fun k_52 w_148 => k_52 t245 w_148) (fun t299_1 w_149 => 
     gd t297 false (fun k_53 w_150 => k_53 v_locks_1 w_150) (fun t300_1 w_151 => 
     gd t297 false (fun k_54 w_152 => callS Tryz.prog 70 #[t300_1] (fun t301 w_153 => k_54 t301 w_153) w_152) (fun t301_1 w_154 => 
     gd t297 false (fun k_55 w_155 => callS Tryz.prog 69 #[t299_1, t301_1] (fun t302 w_156 => k_55 t302 w_156) w_155) (fun t302_1 w_157 => 
     gd t297 false (fun k_56 w_158 => pur Tryz.prog (Op.unary .not t302_1) fun t303 => k_56 t303 w_158) (fun t303_1 w_159 => 
     pur Tryz.prog (pickS t297 (.bool true) t303_1) fun t304 => 
     gd t304 false (fun k_57 w_160 => k_57 t247 w_160) (fun t306_1 w_161 => 
     gd t304 false (fun k_58 w_162 => k_58 v_wrote_1 w_162) (fun t307_1 w_163 => 
     gd t304 false (fun k_59 w_164 => callS Tryz.prog 93 #[t306_1, t307_1] (fun t308 w_165 => k_59 t308 w_165) w_164) (fun t308_1 w_166 => 
     gd t304 false (fun k_60 w_167 => pur Tryz.prog (Op.unary .not t308_1) fun t309 => k_60 t309 w_167) (fun t309_1 w_168 => 
     pur Tryz.prog (pickS t304 (.bool true) t309_1) fun t310 => 
     gd t310 false (fun k_61 w_169 => k_61 t249 w_169) (fun t312_1 w_170 => 
     gd t310 false (fun k_62 w_171 => k_62 v_read_1 w_171) (fun t313_1 w_172 => 
     gd t310 false (fun k_63 w_173 => callS Tryz.prog 93 #[t312_1, t313_1] (fun t314 w_174 => k_63 t314 w_174) w_173) (fun t314_1 w_175 => 
     gd t310 false (fun k_64 w_176 => pur Tryz.prog (Op.unary .not t314_1) fun t315 => k_64 t315 w_176) (fun t315_1 w_177 => 
     pur Tryz.prog (pickS t310 (.bool true) t315_1) fun t316 => 
     gd t316 false (fun k_65 w_178 => k_65 t55 w_178) (fun t318_1 w_179 => 
     gd t316 false (fun k_66 w_180 => callS Tryz.prog 94 #[t318_1] (fun t319 w_181 => k_66 t319 w_181) w_180) (fun t319_1 w_182 => 
     gd t316 false (fun k_67 w_183 => k_67 v_wrote_1 w_183) (fun t320_1 w_184 => 
     gd t316 false (fun k_68 w_185 => pur Tryz.prog (Builtin.len_ #[131] 3 #[t320_1]) fun t321 => k_68 t321 w_185) (fun t321_1 w_186 => 
     gd t316 false (fun k_69 w_187 => pur Tryz.prog (binS .neq 3 false false t319_1 t321_1) fun t322 => k_69 t322 w_187) (fun t322_1 w_188 => 
     pur Tryz.prog (pickS t316 (.bool true) t322_1) fun t323 => 
     condS t323
      (Q (.bool false) w_188)
      (pur Tryz.prog (binS .add 3 false true v_i (.int .i64 1)) fun t101 => 
   J_1 v_locks_1 v_wrote_1 v_read_1 t101 w_188)) w_186) w_184) w_182) w_179) w_177) w_175) w_172) w_170) w_168) w_166) w_163) w_161) w_159) w_157) w_154) w_151) w_149) w_147) w_145) w_143) w_141) w_139) w_139)) [(.bool false), (.int .i64 0)] w_138) w_137) w_137) w_136) w_135) w_134) w_133) w_132) w_131)) w_129) w_129))) [(.bool false), (.int .i64 0)] w_53) w_52) w_52) w_51) w_51)) w_51) w_50) w_49) w_49)
    (callS Tryz.prog 74 #[] (fun t324 w_189 => 
  gd t324 true (fun k_70 w_190 => k_70 t89 w_190) (fun t326_1 w_191 => 
  gd t324 true (fun k_71 w_192 => callS Tryz.prog 22 #[t326_1] (fun t327 w_193 => k_71 t327 w_193) w_192) (fun t327_1 w_194 => 
  pur Tryz.prog (pickS t324 t327_1 (.bool false)) fun t328 => 
  Q t328 w_194) w_191) w_189) w_49)) [t87, (.slice none 0 0), (.slice none 0 0), (.int .i64 0)] w_48) (World.drew w_47)) w_46) w_44)) w_44)) w_42) w_39) w_37) w_35) w_33) w_31) w_29) w_27) w_25) w_23) w_21) w_18) w_16) w_14) w_13) w_13) w_12) w_12) w_11))) w_5) w_3) w_1) w
theorem eq7 (v_s v_own v_l v_ops : Value) (Q : Value → World → Prop) (w : World) : semF Tryz.prog 7 [v_s, v_own, v_l, v_ops] Q w = S7 v_s v_own v_l v_ops Q w := by kernel_rfl
theorem ref7 {v_s v_own v_l v_ops : Value} {Q : Value → World → Prop} {w : World} (h : S7 v_s v_own v_l v_ops Q w) : callS Tryz.prog 7 #[v_s, v_own, v_l, v_ops] Q w :=
  callS_of mix (fun a w => Tryz.call7 a w) (by kernel_rfl) (by rw [eq7]; exact h)
-- (*commons/commonsbook.Book).Apart
def S22 (v_b : Value) (Q : Value → World → Prop) (w : World) : Prop :=
 callS Tryz.prog 102 #[v_b] (fun t19 w_1 => 
 pur Tryz.prog (Op.unary .not t19) fun t20 => 
 condS t20
  (Q (.bool false) w_1)
  (callS Tryz.prog 103 #[v_b] (fun t22 w_2 => 
 pur Tryz.prog (Op.unary .not t22) fun t23 => 
 condS t23
  (Q (.bool false) w_2)
  (callS Tryz.prog 104 #[v_b] (fun t25 w_3 => 
 pur Tryz.prog (Op.unary .not t25) fun t26 => 
 condS t26
  (Q (.bool false) w_3)
  (callS Tryz.prog 105 #[v_b] (fun t28 w_4 => 
 pur Tryz.prog (Op.unary .not t28) fun t29 => 
 condS t29
  (Q (.bool false) w_4)
  (callS Tryz.prog 106 #[v_b] (fun t31 w_5 => 
 pur Tryz.prog (Op.unary .not t31) fun t32 => 
 condS t32
  (Q (.bool false) w_5)
  (callS Tryz.prog 107 #[v_b] (fun t34 w_6 => 
 pur Tryz.prog (Op.unary .not t34) fun t35 => 
 condS t35
  (Q (.bool false) w_6)
  (callS Tryz.prog 108 #[v_b] (fun t37 w_7 => 
 pur Tryz.prog (Op.unary .not t37) fun t38 => 
 condS t38
  (Q (.bool false) w_7)
  (callS Tryz.prog 109 #[v_b] (fun t40 w_8 => 
 pur Tryz.prog (Op.unary .not t40) fun t41 => 
 condS t41
  (Q (.bool false) w_8)
  (callS Tryz.prog 110 #[v_b] (fun t43 w_9 => 
 pur Tryz.prog (Op.unary .not t43) fun t44 => 
 condS t44
  (Q (.bool false) w_9)
  (callS Tryz.prog 111 #[v_b] (fun t46 w_10 => 
 pur Tryz.prog (Op.unary .not t46) fun t47 => 
 condS t47
  (Q (.bool false) w_10)
  (callS Tryz.prog 112 #[v_b] (fun t49 w_11 => 
 pur Tryz.prog (Op.unary .not t49) fun t50 => 
 condS t50
  (Q (.bool false) w_11)
  (callS Tryz.prog 113 #[v_b] (fun t52 w_12 => 
 pur Tryz.prog (Op.unary .not t52) fun t53 => 
 condS t53
  (Q (.bool false) w_12)
  (callS Tryz.prog 114 #[v_b] (fun t55 w_13 => 
 pur Tryz.prog (Op.unary .not t55) fun t56 => 
 condS t56
  (Q (.bool false) w_13)
  (callS Tryz.prog 115 #[v_b] (fun t58 w_14 => 
 pur Tryz.prog (Op.unary .not t58) fun t59 => 
 condS t59
  (Q (.bool false) w_14)
  (callS Tryz.prog 116 #[v_b] (fun t61 w_15 => 
 pur Tryz.prog (Op.unary .not t61) fun t62 => 
 condS t62
  (Q (.bool false) w_15)
  (callS Tryz.prog 117 #[v_b] (fun _ w_16 => 
 callS Tryz.prog 118 #[v_b] (fun _ w_17 => 
 callS Tryz.prog 119 #[v_b] (fun _ w_18 => 
 callS Tryz.prog 120 #[v_b] (fun _ w_19 => 
 callS Tryz.prog 121 #[v_b] (fun _ w_20 => 
 callS Tryz.prog 122 #[v_b] (fun _ w_21 => 
 callS Tryz.prog 123 #[v_b] (fun _ w_22 => 
 callS Tryz.prog 124 #[v_b] (fun _ w_23 => 
 callS Tryz.prog 125 #[v_b] (fun _ w_24 => 
 callS Tryz.prog 126 #[v_b] (fun _ w_25 => 
 callS Tryz.prog 127 #[v_b] (fun _ w_26 => 
 callS Tryz.prog 128 #[v_b] (fun _ w_27 => 
 callS Tryz.prog 129 #[v_b] (fun _ w_28 => 
 callS Tryz.prog 130 #[v_b] (fun _ w_29 => 
 callS Tryz.prog 131 #[v_b] (fun _ w_30 => 
 callS Tryz.prog 132 #[v_b] (fun t94 w_31 => 
 callS Tryz.prog 133 #[v_b] (fun t96 w_32 => 
 callS Tryz.prog 134 #[v_b] (fun t98 w_33 => 
 callS Tryz.prog 135 #[v_b] (fun t100 w_34 => 
 callS Tryz.prog 136 #[v_b] (fun t102 w_35 => 
 callS Tryz.prog 137 #[v_b] (fun t104 w_36 => 
 callS Tryz.prog 138 #[v_b] (fun t106 w_37 => 
 callS Tryz.prog 139 #[v_b] (fun t108 w_38 => 
 callS Tryz.prog 140 #[v_b] (fun t110 w_39 => 
 callS Tryz.prog 141 #[v_b] (fun t112 w_40 => 
 callS Tryz.prog 142 #[v_b] (fun t114 w_41 => 
 callS Tryz.prog 143 #[v_b] (fun t116 w_42 => 
 callS Tryz.prog 144 #[v_b] (fun t118 w_43 => 
 callS Tryz.prog 145 #[v_b] (fun t120 w_44 => 
 callS Tryz.prog 146 #[v_b] (fun t122 w_45 => 
 callS Tryz.prog 147 #[t94] (fun t124 w_46 => 
 gd t124 true (fun k w_47 => k v_b w_47) (fun t126_1 w_48 => 
 gd t124 true (fun k_1 w_49 => pur Tryz.prog (nilV t126_1) fun t127 => k_1 t127 w_49) (fun t127_1 w_50 => 
 gd t124 true (fun k_2 w_51 => pur Tryz.prog (Instr.fieldAt 51 t127_1 0) fun t128 => k_2 t128 w_51) (fun t128_1 w_52 => 
 gd t124 true (fun k_3 w_53 => rd Tryz.prog (Instr.loadAt 35 t128_1) (fun t129 => k_3 t129 w_53) w_53) (fun t129_1 w_54 => 
 gd t124 true (fun k_4 w_55 => callS Tryz.prog 147 #[t129_1] (fun t130 w_56 => k_4 t130 w_56) w_55) (fun t130_1 w_57 => 
 pur Tryz.prog (pickS t124 t130_1 (.bool false)) fun t131 => 
 gd t131 true (fun k_5 w_58 => k_5 t96 w_58) (fun t133_1 w_59 => 
 gd t131 true (fun k_6 w_60 => callS Tryz.prog 148 #[t133_1] (fun t134 w_61 => k_6 t134 w_61) w_60) (fun t134_1 w_62 => 
 pur Tryz.prog (pickS t131 t134_1 (.bool false)) fun t135 => 
 gd t135 true (fun k_7 w_63 => k_7 v_b w_63) (fun t137_1 w_64 => 
 gd t135 true (fun k_8 w_65 => pur Tryz.prog (nilV t137_1) fun t138 => k_8 t138 w_65) (fun t138_1 w_66 => 
 gd t135 true (fun k_9 w_67 => pur Tryz.prog (Instr.fieldAt 51 t138_1 2) fun t139 => k_9 t139 w_67) (fun t139_1 w_68 => 
 gd t135 true (fun k_10 w_69 => rd Tryz.prog (Instr.loadAt 36 t139_1) (fun t140 => k_10 t140 w_69) w_69) (fun t140_1 w_70 => 
 gd t135 true (fun k_11 w_71 => callS Tryz.prog 148 #[t140_1] (fun t141 w_72 => k_11 t141 w_72) w_71) (fun t141_1 w_73 => 
 pur Tryz.prog (pickS t135 t141_1 (.bool false)) fun t142 => 
 gd t142 true (fun k_12 w_74 => k_12 t98 w_74) (fun t144_1 w_75 => 
 gd t142 true (fun k_13 w_76 => callS Tryz.prog 149 #[t144_1] (fun t145 w_77 => k_13 t145 w_77) w_76) (fun t145_1 w_78 => 
 pur Tryz.prog (pickS t142 t145_1 (.bool false)) fun t146 => 
 gd t146 true (fun k_14 w_79 => k_14 v_b w_79) (fun t148_1 w_80 => 
 gd t146 true (fun k_15 w_81 => pur Tryz.prog (nilV t148_1) fun t149 => k_15 t149 w_81) (fun t149_1 w_82 => 
 gd t146 true (fun k_16 w_83 => pur Tryz.prog (Instr.fieldAt 51 t149_1 4) fun t150 => k_16 t150 w_83) (fun t150_1 w_84 => 
 gd t146 true (fun k_17 w_85 => rd Tryz.prog (Instr.loadAt 37 t150_1) (fun t151 => k_17 t151 w_85) w_85) (fun t151_1 w_86 => 
 gd t146 true (fun k_18 w_87 => callS Tryz.prog 149 #[t151_1] (fun t152 w_88 => k_18 t152 w_88) w_87) (fun t152_1 w_89 => 
 pur Tryz.prog (pickS t146 t152_1 (.bool false)) fun t153 => 
 gd t153 true (fun k_19 w_90 => k_19 t100 w_90) (fun t155_1 w_91 => 
 gd t153 true (fun k_20 w_92 => callS Tryz.prog 150 #[t155_1] (fun t156 w_93 => k_20 t156 w_93) w_92) (fun t156_1 w_94 => 
 pur Tryz.prog (pickS t153 t156_1 (.bool false)) fun t157 => 
 gd t157 true (fun k_21 w_95 => k_21 v_b w_95) (fun t159_1 w_96 => 
 gd t157 true (fun k_22 w_97 => pur Tryz.prog (nilV t159_1) fun t160 => k_22 t160 w_97) (fun t160_1 w_98 => 
 gd t157 true (fun k_23 w_99 => pur Tryz.prog (Instr.fieldAt 51 t160_1 6) fun t161 => k_23 t161 w_99) (fun t161_1 w_100 => 
 gd t157 true (fun k_24 w_101 => rd Tryz.prog (Instr.loadAt 38 t161_1) (fun t162 => k_24 t162 w_101) w_101) (fun t162_1 w_102 => 
 gd t157 true (fun k_25 w_103 => callS Tryz.prog 150 #[t162_1] (fun t163 w_104 => k_25 t163 w_104) w_103) (fun t163_1 w_105 => 
 pur Tryz.prog (pickS t157 t163_1 (.bool false)) fun t164 => 
 gd t164 true (fun k_26 w_106 => k_26 t102 w_106) (fun t166_1 w_107 => 
 gd t164 true (fun k_27 w_108 => callS Tryz.prog 151 #[t166_1] (fun t167 w_109 => k_27 t167 w_109) w_108) (fun t167_1 w_110 => 
 pur Tryz.prog (pickS t164 t167_1 (.bool false)) fun t168 => 
 gd t168 true (fun k_28 w_111 => k_28 v_b w_111) (fun t170_1 w_112 => 
 gd t168 true (fun k_29 w_113 => pur Tryz.prog (nilV t170_1) fun t171 => k_29 t171 w_113) (fun t171_1 w_114 => 
 gd t168 true (fun k_30 w_115 => pur Tryz.prog (Instr.fieldAt 51 t171_1 8) fun t172 => k_30 t172 w_115) (fun t172_1 w_116 => 
 gd t168 true (fun k_31 w_117 => rd Tryz.prog (Instr.loadAt 39 t172_1) (fun t173 => k_31 t173 w_117) w_117) (fun t173_1 w_118 => 
 gd t168 true (fun k_32 w_119 => callS Tryz.prog 151 #[t173_1] (fun t174 w_120 => k_32 t174 w_120) w_119) (fun t174_1 w_121 => 
 pur Tryz.prog (pickS t168 t174_1 (.bool false)) fun t175 => 
 gd t175 true (fun k_33 w_122 => k_33 t104 w_122) (fun t177_1 w_123 => 
 gd t175 true (fun k_34 w_124 => callS Tryz.prog 152 #[t177_1] (fun t178 w_125 => k_34 t178 w_125) w_124) (fun t178_1 w_126 => 
 pur Tryz.prog (pickS t175 t178_1 (.bool false)) fun t179 => 
 gd t179 true (fun k_35 w_127 => k_35 v_b w_127) (fun t181_1 w_128 => 
 gd t179 true (fun k_36 w_129 => pur Tryz.prog (nilV t181_1) fun t182 => k_36 t182 w_129) (fun t182_1 w_130 => 
 gd t179 true (fun k_37 w_131 => pur Tryz.prog (Instr.fieldAt 51 t182_1 10) fun t183 => k_37 t183 w_131) (fun t183_1 w_132 => 
 gd t179 true (fun k_38 w_133 => rd Tryz.prog (Instr.loadAt 40 t183_1) (fun t184 => k_38 t184 w_133) w_133) (fun t184_1 w_134 => 
 gd t179 true (fun k_39 w_135 => callS Tryz.prog 152 #[t184_1] (fun t185 w_136 => k_39 t185 w_136) w_135) (fun t185_1 w_137 => 
 pur Tryz.prog (pickS t179 t185_1 (.bool false)) fun t186 => 
 gd t186 true (fun k_40 w_138 => k_40 t106 w_138) (fun t188_1 w_139 => 
 gd t186 true (fun k_41 w_140 => callS Tryz.prog 153 #[t188_1] (fun t189 w_141 => k_41 t189 w_141) w_140) (fun t189_1 w_142 => 
 pur Tryz.prog (pickS t186 t189_1 (.bool false)) fun t190 => 
 gd t190 true (fun k_42 w_143 => k_42 v_b w_143) (fun t192_1 w_144 => 
 gd t190 true (fun k_43 w_145 => pur Tryz.prog (nilV t192_1) fun t193 => k_43 t193 w_145) (fun t193_1 w_146 => 
 gd t190 true (fun k_44 w_147 => pur Tryz.prog (Instr.fieldAt 51 t193_1 12) fun t194 => k_44 t194 w_147) (fun t194_1 w_148 => 
 gd t190 true (fun k_45 w_149 => rd Tryz.prog (Instr.loadAt 41 t194_1) (fun t195 => k_45 t195 w_149) w_149) (fun t195_1 w_150 => 
 gd t190 true (fun k_46 w_151 => callS Tryz.prog 153 #[t195_1] (fun t196 w_152 => k_46 t196 w_152) w_151) (fun t196_1 w_153 => 
 pur Tryz.prog (pickS t190 t196_1 (.bool false)) fun t197 => 
 gd t197 true (fun k_47 w_154 => k_47 t108 w_154) (fun t199_1 w_155 => 
 gd t197 true (fun k_48 w_156 => callS Tryz.prog 154 #[t199_1] (fun t200 w_157 => k_48 t200 w_157) w_156) (fun t200_1 w_158 => 
 pur Tryz.prog (pickS t197 t200_1 (.bool false)) fun t201 => 
 gd t201 true (fun k_49 w_159 => k_49 v_b w_159) (fun t203_1 w_160 => 
 gd t201 true (fun k_50 w_161 => pur Tryz.prog (nilV t203_1) fun t204 => k_50 t204 w_161) (fun t204_1 w_162 => 
 gd t201 true (fun k_51 w_163 => pur Tryz.prog (Instr.fieldAt 51 t204_1 14) fun t205 => k_51 t205 w_163) (fun t205_1 w_164 => 
 gd t201 true (fun k_52 w_165 => rd Tryz.prog (Instr.loadAt 42 t205_1) (fun t206 => k_52 t206 w_165) w_165) (fun t206_1 w_166 => 
 gd t201 true (fun k_53 w_167 => callS Tryz.prog 154 #[t206_1] (fun t207 w_168 => k_53 t207 w_168) w_167) (fun t207_1 w_169 => 
 pur Tryz.prog (pickS t201 t207_1 (.bool false)) fun t208 => 
 gd t208 true (fun k_54 w_170 => k_54 t110 w_170) (fun t210_1 w_171 => 
 gd t208 true (fun k_55 w_172 => callS Tryz.prog 155 #[t210_1] (fun t211 w_173 => k_55 t211 w_173) w_172) (fun t211_1 w_174 => 
 pur Tryz.prog (pickS t208 t211_1 (.bool false)) fun t212 => 
 gd t212 true (fun k_56 w_175 => k_56 v_b w_175) (fun t214_1 w_176 => 
 gd t212 true (fun k_57 w_177 => pur Tryz.prog (nilV t214_1) fun t215 => k_57 t215 w_177) (fun t215_1 w_178 => 
 gd t212 true (fun k_58 w_179 => pur Tryz.prog (Instr.fieldAt 51 t215_1 16) fun t216 => k_58 t216 w_179) (fun t216_1 w_180 => 
 gd t212 true (fun k_59 w_181 => rd Tryz.prog (Instr.loadAt 43 t216_1) (fun t217 => k_59 t217 w_181) w_181) (fun t217_1 w_182 => 
 gd t212 true (fun k_60 w_183 => callS Tryz.prog 155 #[t217_1] (fun t218 w_184 => k_60 t218 w_184) w_183) (fun t218_1 w_185 => 
 pur Tryz.prog (pickS t212 t218_1 (.bool false)) fun t219 => 
 gd t219 true (fun k_61 w_186 => k_61 t112 w_186) (fun t221_1 w_187 => 
 gd t219 true (fun k_62 w_188 => callS Tryz.prog 156 #[t221_1] (fun t222 w_189 => k_62 t222 w_189) w_188) (fun t222_1 w_190 => 
 pur Tryz.prog (pickS t219 t222_1 (.bool false)) fun t223 => 
 gd t223 true (fun k_63 w_191 => k_63 v_b w_191) (fun t225_1 w_192 => 
 gd t223 true (fun k_64 w_193 => pur Tryz.prog (nilV t225_1) fun t226 => k_64 t226 w_193) (fun t226_1 w_194 => 
 gd t223 true (fun k_65 w_195 => pur Tryz.prog (Instr.fieldAt 51 t226_1 18) fun t227 => k_65 t227 w_195) (fun t227_1 w_196 => 
 gd t223 true (fun k_66 w_197 => rd Tryz.prog (Instr.loadAt 44 t227_1) (fun t228 => k_66 t228 w_197) w_197) (fun t228_1 w_198 => 
 gd t223 true (fun k_67 w_199 => callS Tryz.prog 156 #[t228_1] (fun t229 w_200 => k_67 t229 w_200) w_199) (fun t229_1 w_201 => 
 pur Tryz.prog (pickS t223 t229_1 (.bool false)) fun t230 => 
 gd t230 true (fun k_68 w_202 => k_68 t114 w_202) (fun t232_1 w_203 => 
 gd t230 true (fun k_69 w_204 => callS Tryz.prog 157 #[t232_1] (fun t233 w_205 => k_69 t233 w_205) w_204) (fun t233_1 w_206 => 
 pur Tryz.prog (pickS t230 t233_1 (.bool false)) fun t234 => 
 gd t234 true (fun k_70 w_207 => k_70 v_b w_207) (fun t236_1 w_208 => 
 gd t234 true (fun k_71 w_209 => pur Tryz.prog (nilV t236_1) fun t237 => k_71 t237 w_209) (fun t237_1 w_210 => 
 gd t234 true (fun k_72 w_211 => pur Tryz.prog (Instr.fieldAt 51 t237_1 20) fun t238 => k_72 t238 w_211) (fun t238_1 w_212 => 
 gd t234 true (fun k_73 w_213 => rd Tryz.prog (Instr.loadAt 45 t238_1) (fun t239 => k_73 t239 w_213) w_213) (fun t239_1 w_214 => 
 gd t234 true (fun k_74 w_215 => callS Tryz.prog 157 #[t239_1] (fun t240 w_216 => k_74 t240 w_216) w_215) (fun t240_1 w_217 => 
 pur Tryz.prog (pickS t234 t240_1 (.bool false)) fun t241 => 
 gd t241 true (fun k_75 w_218 => k_75 t116 w_218) (fun t243_1 w_219 => 
 gd t241 true (fun k_76 w_220 => callS Tryz.prog 158 #[t243_1] (fun t244 w_221 => k_76 t244 w_221) w_220) (fun t244_1 w_222 => 
 pur Tryz.prog (pickS t241 t244_1 (.bool false)) fun t245 => 
 gd t245 true (fun k_77 w_223 => k_77 v_b w_223) (fun t247_1 w_224 => 
 gd t245 true (fun k_78 w_225 => pur Tryz.prog (nilV t247_1) fun t248 => k_78 t248 w_225) (fun t248_1 w_226 => 
 gd t245 true (fun k_79 w_227 => pur Tryz.prog (Instr.fieldAt 51 t248_1 22) fun t249 => k_79 t249 w_227) (fun t249_1 w_228 => 
 gd t245 true (fun k_80 w_229 => rd Tryz.prog (Instr.loadAt 46 t249_1) (fun t250 => k_80 t250 w_229) w_229) (fun t250_1 w_230 => 
 gd t245 true (fun k_81 w_231 => callS Tryz.prog 158 #[t250_1] (fun t251 w_232 => k_81 t251 w_232) w_231) (fun t251_1 w_233 => 
 pur Tryz.prog (pickS t245 t251_1 (.bool false)) fun t252 => 
 gd t252 true (fun k_82 w_234 => k_82 t118 w_234) (fun t254_1 w_235 => 
 gd t252 true (fun k_83 w_236 => callS Tryz.prog 159 #[t254_1] (fun t255 w_237 => k_83 t255 w_237) w_236) (fun t255_1 w_238 => 
 pur Tryz.prog (pickS t252 t255_1 (.bool false)) fun t256 => 
 gd t256 true (fun k_84 w_239 => k_84 v_b w_239) (fun t258_1 w_240 => 
 gd t256 true (fun k_85 w_241 => pur Tryz.prog (nilV t258_1) fun t259 => k_85 t259 w_241) (fun t259_1 w_242 => 
 gd t256 true (fun k_86 w_243 => pur Tryz.prog (Instr.fieldAt 51 t259_1 24) fun t260 => k_86 t260 w_243) (fun t260_1 w_244 => 
 gd t256 true (fun k_87 w_245 => rd Tryz.prog (Instr.loadAt 47 t260_1) (fun t261 => k_87 t261 w_245) w_245) (fun t261_1 w_246 => 
 gd t256 true (fun k_88 w_247 => callS Tryz.prog 159 #[t261_1] (fun t262 w_248 => k_88 t262 w_248) w_247) (fun t262_1 w_249 => 
 pur Tryz.prog (pickS t256 t262_1 (.bool false)) fun t263 => 
 gd t263 true (fun k_89 w_250 => k_89 t120 w_250) (fun t265_1 w_251 => 
 gd t263 true (fun k_90 w_252 => callS Tryz.prog 160 #[t265_1] (fun t266 w_253 => k_90 t266 w_253) w_252) (fun t266_1 w_254 => 
 pur Tryz.prog (pickS t263 t266_1 (.bool false)) fun t267 => 
 gd t267 true (fun k_91 w_255 => k_91 v_b w_255) (fun t269_1 w_256 => 
 gd t267 true (fun k_92 w_257 => pur Tryz.prog (nilV t269_1) fun t270 => k_92 t270 w_257) (fun t270_1 w_258 => 
 gd t267 true (fun k_93 w_259 => pur Tryz.prog (Instr.fieldAt 51 t270_1 26) fun t271 => k_93 t271 w_259) (fun t271_1 w_260 => 
 gd t267 true (fun k_94 w_261 => rd Tryz.prog (Instr.loadAt 48 t271_1) (fun t272 => k_94 t272 w_261) w_261) (fun t272_1 w_262 => 
 gd t267 true (fun k_95 w_263 => callS Tryz.prog 160 #[t272_1] (fun t273 w_264 => k_95 t273 w_264) w_263) (fun t273_1 w_265 => 
 pur Tryz.prog (pickS t267 t273_1 (.bool false)) fun t274 => 
 gd t274 true (fun k_96 w_266 => k_96 t122 w_266) (fun t276_1 w_267 => 
 gd t274 true (fun k_97 w_268 => callS Tryz.prog 161 #[t276_1] (fun t277 w_269 => k_97 t277 w_269) w_268) (fun t277_1 w_270 => 
 pur Tryz.prog (pickS t274 t277_1 (.bool false)) fun t278 => 
 gd t278 true (fun k_98 w_271 => k_98 v_b w_271) (fun t280_1 w_272 => 
 gd t278 true (fun k_99 w_273 => pur Tryz.prog (nilV t280_1) fun t281 => k_99 t281 w_273) (fun t281_1 w_274 => 
 gd t278 true (fun k_100 w_275 => pur Tryz.prog (Instr.fieldAt 51 t281_1 28) fun t282 => k_100 t282 w_275) (fun t282_1 w_276 => 
 gd t278 true (fun k_101 w_277 => rd Tryz.prog (Instr.loadAt 49 t282_1) (fun t283 => k_101 t283 w_277) w_277) (fun t283_1 w_278 => 
 gd t278 true (fun k_102 w_279 => callS Tryz.prog 161 #[t283_1] (fun t284 w_280 => k_102 t284 w_280) w_279) (fun t284_1 w_281 => 
 pur Tryz.prog (pickS t278 t284_1 (.bool false)) fun t285 => 
 Q t285 w_281) w_278) w_276) w_274) w_272) w_270) w_267) w_265) w_262) w_260) w_258) w_256) w_254) w_251) w_249) w_246) w_244) w_242) w_240) w_238) w_235) w_233) w_230) w_228) w_226) w_224) w_222) w_219) w_217) w_214) w_212) w_210) w_208) w_206) w_203) w_201) w_198) w_196) w_194) w_192) w_190) w_187) w_185) w_182) w_180) w_178) w_176) w_174) w_171) w_169) w_166) w_164) w_162) w_160) w_158) w_155) w_153) w_150) w_148) w_146) w_144) w_142) w_139) w_137) w_134) w_132) w_130) w_128) w_126) w_123) w_121) w_118) w_116) w_114) w_112) w_110) w_107) w_105) w_102) w_100) w_98) w_96) w_94) w_91) w_89) w_86) w_84) w_82) w_80) w_78) w_75) w_73) w_70) w_68) w_66) w_64) w_62) w_59) w_57) w_54) w_52) w_50) w_48) w_46) w_45) w_44) w_43) w_42) w_41) w_40) w_39) w_38) w_37) w_36) w_35) w_34) w_33) w_32) w_31) w_30) w_29) w_28) w_27) w_26) w_25) w_24) w_23) w_22) w_21) w_20) w_19) w_18) w_17) w_16) w_15)) w_14)) w_13)) w_12)) w_11)) w_10)) w_9)) w_8)) w_7)) w_6)) w_5)) w_4)) w_3)) w_2)) w_1)) w
theorem eq22 (v_b : Value) (Q : Value → World → Prop) (w : World) : semF Tryz.prog 22 [v_b] Q w = S22 v_b Q w := by kernel_rfl
theorem ref22 {v_b : Value} {Q : Value → World → Prop} {w : World} (h : S22 v_b Q w) : callS Tryz.prog 22 #[v_b] Q w :=
  callS_of mix (fun a w => Tryz.call22 a w) (by kernel_rfl) (by rw [eq22]; exact h)
-- commons/commonsref1.Valid
def S24 (v_s : Value) (Q : Value → World → Prop) (w : World) : Prop :=
 act Tryz.prog (Instr.box 72 v_s) (fun t1 w_1 => 
 pur Tryz.prog (Instr.fieldAt 72 t1 0) fun t3 => 
 rd Tryz.prog (Instr.loadAt 3 t3) (fun t4 => 
 pur Tryz.prog (binS .geq 3 false true t4 (.int .i64 0)) fun t5 => 
 gd t5 true (fun k w_2 => pur Tryz.prog (Instr.fieldAt 72 t1 0) fun t7 => k t7 w_2) (fun t7_1 w_3 => 
 gd t5 true (fun k_1 w_4 => rd Tryz.prog (Instr.loadAt 3 t7_1) (fun t8 => k_1 t8 w_4) w_4) (fun t8_1 w_5 => 
 gd t5 true (fun k_2 w_6 => pur Tryz.prog (Instr.fieldAt 72 t1 1) fun t9 => k_2 t9 w_6) (fun t9_1 w_7 => 
 gd t5 true (fun k_3 w_8 => rd Tryz.prog (Instr.loadAt 3 t9_1) (fun t10 => k_3 t10 w_8) w_8) (fun t10_1 w_9 => 
 gd t5 true (fun k_4 w_10 => pur Tryz.prog (binS .lss 3 false false t8_1 t10_1) fun t11 => k_4 t11 w_10) (fun t11_1 w_11 => 
 pur Tryz.prog (pickS t5 t11_1 (.bool false)) fun t12 => 
 Q t12 w_11) w_9) w_7) w_5) w_3) w_1) w_1) w
theorem eq24 (v_s : Value) (Q : Value → World → Prop) (w : World) : semF Tryz.prog 24 [v_s] Q w = S24 v_s Q w := by kernel_rfl
theorem ref24 {v_s : Value} {Q : Value → World → Prop} {w : World} (h : S24 v_s Q w) : callS Tryz.prog 24 #[v_s] Q w :=
  callS_of mix (fun a w => Tryz.call24 a w) (by kernel_rfl) (by rw [eq24]; exact h)
-- commons/span.Valid
def S25 (v_s : Value) (Q : Value → World → Prop) (w : World) : Prop :=
 act Tryz.prog (Instr.box 72 v_s) (fun t1 w_1 => 
 pur Tryz.prog (Instr.fieldAt 72 t1 0) fun t3 => 
 rd Tryz.prog (Instr.loadAt 3 t3) (fun t4 => 
 pur Tryz.prog (binS .geq 3 false true t4 (.int .i64 0)) fun t5 => 
 gd t5 true (fun k w_2 => pur Tryz.prog (Instr.fieldAt 72 t1 0) fun t7 => k t7 w_2) (fun t7_1 w_3 => 
 gd t5 true (fun k_1 w_4 => rd Tryz.prog (Instr.loadAt 3 t7_1) (fun t8 => k_1 t8 w_4) w_4) (fun t8_1 w_5 => 
 gd t5 true (fun k_2 w_6 => pur Tryz.prog (Instr.fieldAt 72 t1 1) fun t9 => k_2 t9 w_6) (fun t9_1 w_7 => 
 gd t5 true (fun k_3 w_8 => rd Tryz.prog (Instr.loadAt 3 t9_1) (fun t10 => k_3 t10 w_8) w_8) (fun t10_1 w_9 => 
 gd t5 true (fun k_4 w_10 => pur Tryz.prog (binS .lss 3 false false t8_1 t10_1) fun t11 => k_4 t11 w_10) (fun t11_1 w_11 => 
 pur Tryz.prog (pickS t5 t11_1 (.bool false)) fun t12 => 
 Q t12 w_11) w_9) w_7) w_5) w_3) w_1) w_1) w
theorem eq25 (v_s : Value) (Q : Value → World → Prop) (w : World) : semF Tryz.prog 25 [v_s] Q w = S25 v_s Q w := by kernel_rfl
theorem ref25 {v_s : Value} {Q : Value → World → Prop} {w : World} (h : S25 v_s Q w) : callS Tryz.prog 25 #[v_s] Q w :=
  callS_of mix (fun a w => Tryz.call25 a w) (by kernel_rfl) (by rw [eq25]; exact h)
-- commons/span.Has
def S27 (v_s v_block : Value) (Q : Value → World → Prop) (w : World) : Prop :=
 act Tryz.prog (Instr.box 72 v_s) (fun t2 w_1 => 
 rd Tryz.prog (Instr.loadAt 72 t2) (fun t5 => 
 callS Tryz.prog 25 #[t5] (fun t6 w_2 => 
 gd t6 true (fun k w_3 => pur Tryz.prog (Instr.fieldAt 72 t2 0) fun t8 => k t8 w_3) (fun t8_1 w_4 => 
 gd t6 true (fun k_1 w_5 => rd Tryz.prog (Instr.loadAt 3 t8_1) (fun t9 => k_1 t9 w_5) w_5) (fun t9_1 w_6 => 
 gd t6 true (fun k_2 w_7 => k_2 v_block w_7) (fun t10_1 w_8 => 
 gd t6 true (fun k_3 w_9 => pur Tryz.prog (binS .leq 3 false false t9_1 t10_1) fun t11 => k_3 t11 w_9) (fun t11_1 w_10 => 
 pur Tryz.prog (pickS t6 t11_1 (.bool false)) fun t12 => 
 gd t12 true (fun k_4 w_11 => k_4 v_block w_11) (fun t14_1 w_12 => 
 gd t12 true (fun k_5 w_13 => pur Tryz.prog (Instr.fieldAt 72 t2 1) fun t15 => k_5 t15 w_13) (fun t15_1 w_14 => 
 gd t12 true (fun k_6 w_15 => rd Tryz.prog (Instr.loadAt 3 t15_1) (fun t16 => k_6 t16 w_15) w_15) (fun t16_1 w_16 => 
 gd t12 true (fun k_7 w_17 => pur Tryz.prog (binS .lss 3 false false t14_1 t16_1) fun t17 => k_7 t17 w_17) (fun t17_1 w_18 => 
 pur Tryz.prog (pickS t12 t17_1 (.bool false)) fun t18 => 
 Q t18 w_18) w_16) w_14) w_12) w_10) w_8) w_6) w_4) w_2) w_1) w_1) w
theorem eq27 (v_s v_block : Value) (Q : Value → World → Prop) (w : World) : semF Tryz.prog 27 [v_s, v_block] Q w = S27 v_s v_block Q w := by kernel_rfl
theorem ref27 {v_s v_block : Value} {Q : Value → World → Prop} {w : World} (h : S27 v_s v_block Q w) : callS Tryz.prog 27 #[v_s, v_block] Q w :=
  callS_of mix (fun a w => Tryz.call27 a w) (by kernel_rfl) (by rw [eq27]; exact h)
-- commons/span.Meet
def S28 (v_a v_b : Value) (Q : Value → World → Prop) (w : World) : Prop :=
 act Tryz.prog (Instr.box 72 v_a) (fun t2 w_1 => 
 act Tryz.prog (Instr.box 72 v_b) (fun t3 w_2 => 
 act Tryz.prog (Instr.alloc 72 true (.tuple #[])) (fun t4 w_3 => 
 pur Tryz.prog (Instr.fieldAt 72 t2 0) fun t7 => 
 rd Tryz.prog (Instr.loadAt 3 t7) (fun t8 => 
 pur Tryz.prog (Instr.fieldAt 72 t3 0) fun t9 => 
 rd Tryz.prog (Instr.loadAt 3 t9) (fun t10 => 
 pur Tryz.prog (Builtin.max_ #[3, 3] 3 #[t8, t10]) fun t11 => 
 pur Tryz.prog (Instr.fieldAt 72 t2 1) fun t12 => 
 rd Tryz.prog (Instr.loadAt 3 t12) (fun t13 => 
 pur Tryz.prog (Instr.fieldAt 72 t3 1) fun t14 => 
 rd Tryz.prog (Instr.loadAt 3 t14) (fun t15 => 
 pur Tryz.prog (Builtin.min_ #[3, 3] 3 #[t13, t15]) fun t16 => 
 pur Tryz.prog (Instr.build 72 #[(0, t11), (1, t16)]) fun t17 => 
 act Tryz.prog (Instr.alloc 72 true (.tuple #[])) (fun t6 w_4 => 
 act Tryz.prog (thenU (Instr.storeAt 72 t6 t17)) (fun _ w_5 => 
 rd Tryz.prog (Instr.loadAt 72 t2) (fun t18 => 
 callS Tryz.prog 25 #[t18] (fun t19 w_6 => 
 pur Tryz.prog (Op.unary .not t19) fun t20 => 
 gd t20 false (fun k w_7 => rd Tryz.prog (Instr.loadAt 72 t3) (fun t22 => k t22 w_7) w_7) (fun t22_1 w_8 => 
 gd t20 false (fun k_1 w_9 => callS Tryz.prog 25 #[t22_1] (fun t23 w_10 => k_1 t23 w_10) w_9) (fun t23_1 w_11 => 
 gd t20 false (fun k_2 w_12 => pur Tryz.prog (Op.unary .not t23_1) fun t24 => k_2 t24 w_12) (fun t24_1 w_13 => 
 pur Tryz.prog (pickS t20 (.bool true) t24_1) fun t25 => 
 gd t25 false (fun k_3 w_14 => rd Tryz.prog (Instr.loadAt 72 t6) (fun t27 => k_3 t27 w_14) w_14) (fun t27_1 w_15 => 
 gd t25 false (fun k_4 w_16 => callS Tryz.prog 25 #[t27_1] (fun t28 w_17 => k_4 t28 w_17) w_16) (fun t28_1 w_18 => 
 gd t25 false (fun k_5 w_19 => pur Tryz.prog (Op.unary .not t28_1) fun t29 => k_5 t29 w_19) (fun t29_1 w_20 => 
 pur Tryz.prog (pickS t25 (.bool true) t29_1) fun t30 => 
 condS t30
  (pur Tryz.prog (Instr.build 72 #[]) fun t31 => 
  act Tryz.prog (thenU (Instr.storeAt 72 t4 t31)) (fun _ w_21 => 
  rd Tryz.prog (resL 72 t4) (fun r => Q (.tuple #[r, (.bool false)]) w_21) w_21) w_20)
  (rd Tryz.prog (Instr.loadAt 72 t6) (fun t32 => 
 act Tryz.prog (thenU (Instr.storeAt 72 t4 t32)) (fun _ w_22 => 
 rd Tryz.prog (resL 72 t4) (fun r_1 => Q (.tuple #[r_1, (.bool true)]) w_22) w_22) w_20) w_20)) w_18) w_15) w_13) w_11) w_8) w_6) w_5) w_5) w_4) w_3) w_3) w_3) w_3) w_3) w_2) w_1) w
theorem eq28 (v_a v_b : Value) (Q : Value → World → Prop) (w : World) : semF Tryz.prog 28 [v_a, v_b] Q w = S28 v_a v_b Q w := by kernel_rfl
theorem ref28 {v_a v_b : Value} {Q : Value → World → Prop} {w : World} (h : S28 v_a v_b Q w) : callS Tryz.prog 28 #[v_a, v_b] Q w :=
  callS_of mix (fun a w => Tryz.call28 a w) (by kernel_rfl) (by rw [eq28]; exact h)
-- commons/span.Meets
def S30 (v_a v_b : Value) (Q : Value → World → Prop) (w : World) : Prop :=
 act Tryz.prog (Instr.box 72 v_a) (fun t2 w_1 => 
 act Tryz.prog (Instr.box 72 v_b) (fun t3 w_2 => 
 rd Tryz.prog (Instr.loadAt 72 t2) (fun t8 => 
 rd Tryz.prog (Instr.loadAt 72 t3) (fun t9 => 
 callS Tryz.prog 28 #[t8, t9] (fun t10 w_3 => 
 pur Tryz.prog (Instr.extract t10 0) fun t11 => 
 pur Tryz.prog (Instr.extract t10 1) fun t12 => 
 act Tryz.prog (Instr.alloc 72 true (.tuple #[])) (fun t5 w_4 => 
 act Tryz.prog (thenU (Instr.storeAt 72 t5 t11)) (fun _ w_5 => 
 Q t12 w_5) w_4) w_3) w_2) w_2) w_2) w_1) w
theorem eq30 (v_a v_b : Value) (Q : Value → World → Prop) (w : World) : semF Tryz.prog 30 [v_a, v_b] Q w = S30 v_a v_b Q w := by kernel_rfl
theorem ref30 {v_a v_b : Value} {Q : Value → World → Prop} {w : World} (h : S30 v_a v_b Q w) : callS Tryz.prog 30 #[v_a, v_b] Q w :=
  callS_of mix (fun a w => Tryz.call30 a w) (by kernel_rfl) (by rw [eq30]; exact h)
-- commons/span.Norm
def S33 (v_l : Value) (Q : Value → World → Prop) (w : World) : Prop :=
 callS Tryz.prog 163 #[v_l] (fun t8 w_1 => 
 callS Tryz.prog 162 #[t8, (.func (.func 164) #[] #[])] (fun t9 w_2 => 
 callS Tryz.prog 165 #[t9, (.func (.func 166) #[] #[])] (fun _ w_3 => 
 pur Tryz.prog (Builtin.len_ #[70] 3 #[t9]) fun t13 => 
 lp 2 (fun J => fun v_out t14 w_4 => ∀ _j : Fr, 
  pur Tryz.prog (binS .lss 3 false false t14 t13) fun t15 => 
  condS t15
   (jn 1 (fun J_1 => 
   pur Tryz.prog (Instr.indexAt 70 t9 t14) fun t16 => 
   rd Tryz.prog (Instr.loadAt 72 t16) (fun t17 => 
   act Tryz.prog (Instr.alloc 72 true (.tuple #[])) (fun t5 w_5 => 
   act Tryz.prog (thenU (Instr.storeAt 72 t5 t17)) (fun _ w_6 => 
   pur Tryz.prog (Builtin.len_ #[70] 3 #[v_out]) fun t19 => 
   pur Tryz.prog (binS .sub 3 false true t19 (.int .i64 1)) fun t20 => 
   pur Tryz.prog (binS .geq 3 false true t20 (.int .i64 0)) fun t22 => 
   gd t22 true (fun k w_7 => pur Tryz.prog (Instr.fieldAt 72 t5 0) fun t24 => k t24 w_7) (fun t24_1 w_8 => 
   gd t22 true (fun k_1 w_9 => rd Tryz.prog (Instr.loadAt 3 t24_1) (fun t25 => k_1 t25 w_9) w_9) (fun t25_1 w_10 => 
   gd t22 true (fun k_2 w_11 => k_2 v_out w_11) (fun t26_1 w_12 => 
   gd t22 true (fun k_3 w_13 => k_3 t20 w_13) (fun t27_1 w_14 => 
   gd t22 true (fun k_4 w_15 => pur Tryz.prog (Instr.indexAt 70 t26_1 t27_1) fun t28 => k_4 t28 w_15) (fun t28_1 w_16 => 
   gd t22 true (fun k_5 w_17 => pur Tryz.prog (Instr.fieldAt 72 t28_1 1) fun t29 => k_5 t29 w_17) (fun t29_1 w_18 => 
   gd t22 true (fun k_6 w_19 => rd Tryz.prog (Instr.loadAt 3 t29_1) (fun t30 => k_6 t30 w_19) w_19) (fun t30_1 w_20 => 
   gd t22 true (fun k_7 w_21 => pur Tryz.prog (binS .leq 3 false false t25_1 t30_1) fun t31 => k_7 t31 w_21) (fun t31_1 w_22 => 
   pur Tryz.prog (pickS t22 t31_1 (.bool false)) fun t32 => 
   condS t32
    (pur Tryz.prog (Instr.indexAt 70 v_out t20) fun t37 => 
    pur Tryz.prog (Instr.fieldAt 72 t37 1) fun t38 => 
    rd Tryz.prog (Instr.loadAt 3 t38) (fun t39 => 
    pur Tryz.prog (Instr.fieldAt 72 t5 1) fun t40 => 
    rd Tryz.prog (Instr.loadAt 3 t40) (fun t41 => 
    pur Tryz.prog (Builtin.max_ #[3, 3] 3 #[t39, t41]) fun t42 => 
    pur Tryz.prog (Instr.indexAt 70 v_out t20) fun t43 => 
    pur Tryz.prog (Instr.fieldAt 72 t43 1) fun t44 => 
    act Tryz.prog (thenU (Instr.storeAt 3 t44 t42)) (fun _ w_23 => 
    J_1 v_out w_23) (World.drew w_22)) (World.drew w_22)) (World.drew w_22))
    (rd Tryz.prog (Instr.loadAt 72 t5) (fun t46 => 
    act Tryz.prog (Instr.buildSlice 70 1 #[(0, t46)]) (fun t47 w_24 => 
    act Tryz.prog (Builtin.append_ #[70, 70] 70 #[v_out, t47]) (fun t48 w_25 => 
    J_1 t48 w_25) w_24) w_22) w_22)) w_20) w_18) w_16) w_14) w_12) w_10) w_8) (World.drew w_6)) w_5) w_4) w_4)
  (fun v_out_1 w_26 => ∀ _j : Fr, 
   pur Tryz.prog (binS .add 3 false true t14 (.int .i64 1)) fun t49 => 
   J v_out_1 t49 w_26))
   (Q v_out w_4)) [(.slice none 0 0), (.int .i64 0)] w_3) w_2) w_1) w
theorem eq33 (v_l : Value) (Q : Value → World → Prop) (w : World) : semF Tryz.prog 33 [v_l] Q w = S33 v_l Q w := by kernel_rfl
theorem ref33 {v_l : Value} {Q : Value → World → Prop} {w : World} (h : S33 v_l Q w) : callS Tryz.prog 33 #[v_l] Q w :=
  callS_of mix (fun a w => Tryz.call33 a w) (by kernel_rfl) (by rw [eq33]; exact h)
-- commons/span.Minus
def S35 (v_a v_b : Value) (Q : Value → World → Prop) (w : World) : Prop :=
 callS Tryz.prog 33 #[v_a] (fun t12 w_1 => 
 callS Tryz.prog 33 #[v_b] (fun t14 w_2 => 
 pur Tryz.prog (Builtin.len_ #[70] 3 #[t14]) fun t15 => 
 lp 2 (fun J => fun v_out t16 w_3 => ∀ _j : Fr, 
  pur Tryz.prog (binS .lss 3 false false t16 t15) fun t17 => 
  condS t17
   (pur Tryz.prog (Instr.indexAt 70 t14 t16) fun t18 => 
  rd Tryz.prog (Instr.loadAt 72 t18) (fun t19 => 
  act Tryz.prog (Instr.alloc 72 true (.tuple #[])) (fun t7 w_4 => 
  act Tryz.prog (thenU (Instr.storeAt 72 t7 t19)) (fun _ w_5 => 
  pur Tryz.prog (Builtin.len_ #[70] 3 #[v_out]) fun t21 => 
  lp 2 (fun J_1 => fun v_left t22 w_6 => ∀ _j : Fr, 
   pur Tryz.prog (binS .lss 3 false false t22 t21) fun t23 => 
   condS t23
    (jn 1 (fun J_2 => 
    pur Tryz.prog (Instr.indexAt 70 v_out t22) fun t24 => 
    rd Tryz.prog (Instr.loadAt 72 t24) (fun t25 => 
    act Tryz.prog (Instr.alloc 72 true (.tuple #[])) (fun t10 w_7 => 
    act Tryz.prog (thenU (Instr.storeAt 72 t10 t25)) (fun _ w_8 => 
    rd Tryz.prog (Instr.loadAt 72 t10) (fun t26 => 
    rd Tryz.prog (Instr.loadAt 72 t7) (fun t27 => 
    callS Tryz.prog 30 #[t26, t27] (fun t28 w_9 => 
    pur Tryz.prog (Op.unary .not t28) fun t29 => 
    condS t29
     (rd Tryz.prog (Instr.loadAt 72 t10) (fun t31 => 
     act Tryz.prog (Instr.buildSlice 70 1 #[(0, t31)]) (fun t32 w_10 => 
     act Tryz.prog (Builtin.append_ #[70, 70] 70 #[v_left, t32]) (fun t33 w_11 => 
     J_2 t33 w_11) w_10) w_9) w_9)
     (pur Tryz.prog (Instr.fieldAt 72 t10 0) fun t35 => 
    rd Tryz.prog (Instr.loadAt 3 t35) (fun t36 => 
    pur Tryz.prog (Instr.fieldAt 72 t7 0) fun t37 => 
    rd Tryz.prog (Instr.loadAt 3 t37) (fun t38 => 
    pur Tryz.prog (Instr.build 72 #[(0, t36), (1, t38)]) fun t39 => 
    pur Tryz.prog (Instr.fieldAt 72 t7 1) fun t40 => 
    rd Tryz.prog (Instr.loadAt 3 t40) (fun t41 => 
    pur Tryz.prog (Instr.fieldAt 72 t10 1) fun t42 => 
    rd Tryz.prog (Instr.loadAt 3 t42) (fun t43 => 
    pur Tryz.prog (Instr.build 72 #[(0, t41), (1, t43)]) fun t44 => 
    act Tryz.prog (Instr.buildSlice 70 2 #[(0, t39), (1, t44)]) (fun t45 w_12 => 
    act Tryz.prog (Builtin.append_ #[70, 70] 70 #[v_left, t45]) (fun t46 w_13 => 
    J_2 t46 w_13) w_12) w_9) w_9) w_9) w_9) w_9)) w_8) w_8) w_8) w_7) w_6) w_6)
   (fun v_left_1 w_14 => ∀ _j : Fr, 
    pur Tryz.prog (binS .add 3 false true t22 (.int .i64 1)) fun t47 => 
    J_1 v_left_1 t47 w_14))
    (callS Tryz.prog 33 #[v_left] (fun t49 w_15 => 
  pur Tryz.prog (binS .add 3 false true t16 (.int .i64 1)) fun t50 => 
  J t49 t50 w_15) w_6)) [(.slice none 0 0), (.int .i64 0)] w_5) w_4) w_3) w_3)
   (Q v_out w_3)) [t12, (.int .i64 0)] w_2) w_1) w
theorem eq35 (v_a v_b : Value) (Q : Value → World → Prop) (w : World) : semF Tryz.prog 35 [v_a, v_b] Q w = S35 v_a v_b Q w := by kernel_rfl
theorem ref35 {v_a v_b : Value} {Q : Value → World → Prop} {w : World} (h : S35 v_a v_b Q w) : callS Tryz.prog 35 #[v_a, v_b] Q w :=
  callS_of mix (fun a w => Tryz.call35 a w) (by kernel_rfl) (by rw [eq35]; exact h)
-- commons/commonsbook.SameSpans
def S38 (v_a v_b : Value) (Q : Value → World → Prop) (w : World) : Prop :=
 pur Tryz.prog (Builtin.len_ #[70] 3 #[v_a]) fun t7 => 
 pur Tryz.prog (Builtin.len_ #[70] 3 #[v_b]) fun t9 => 
 pur Tryz.prog (binS .neq 3 false false t7 t9) fun t10 => 
 condS t10
  (Q (.bool false) w)
  (lp 1 (fun J => fun v_i w_1 => ∀ _j : Fr, 
  pur Tryz.prog (Builtin.len_ #[70] 3 #[v_a]) fun t13 => 
  pur Tryz.prog (binS .lss 3 false false v_i t13) fun t14 => 
  condS t14
   (pur Tryz.prog (Instr.indexAt 70 v_a v_i) fun t19 => 
  rd Tryz.prog (Instr.loadAt 72 t19) (fun t20 => 
  pur Tryz.prog (Instr.indexAt 70 v_b v_i) fun t23 => 
  rd Tryz.prog (Instr.loadAt 72 t23) (fun t24 => 
  rd Tryz.prog (binS .eql 72 false false t20 t24) (fun t25 => 
  pur Tryz.prog (Op.unary .not t25) fun t26 => 
  condS t26
   (Q (.bool false) (World.drew w_1))
   (pur Tryz.prog (binS .add 3 false true v_i (.int .i64 1)) fun t16 => 
  J t16 (World.drew w_1))) (World.drew w_1)) (World.drew w_1)) (World.drew w_1))
   (Q (.bool true) w_1)) [(.int .i64 0)] w)
theorem eq38 (v_a v_b : Value) (Q : Value → World → Prop) (w : World) : semF Tryz.prog 38 [v_a, v_b] Q w = S38 v_a v_b Q w := by kernel_rfl
theorem ref38 {v_a v_b : Value} {Q : Value → World → Prop} {w : World} (h : S38 v_a v_b Q w) : callS Tryz.prog 38 #[v_a, v_b] Q w :=
  callS_of mix (fun a w => Tryz.call38 a w) (by kernel_rfl) (by rw [eq38]; exact h)
-- commons/imap.New[int]
def S46 (Q : Value → World → Prop) (w : World) : Prop :=
 pur Tryz.prog (Instr.build 95 #[]) fun t1 => 
 act Tryz.prog (Instr.box 95 t1) (fun t2 w_1 => 
 Q t2 w_1) w
theorem eq46 (Q : Value → World → Prop) (w : World) : semF Tryz.prog 46 [] Q w = S46 Q w := by kernel_rfl
theorem ref46 {Q : Value → World → Prop} {w : World} (h : S46 Q w) : callS Tryz.prog 46 #[] Q w :=
  callS_of mix (fun a w => Tryz.call46 a w) (by kernel_rfl) (by rw [eq46]; exact h)
-- (*commons/imap.Map[int]).Set
def S47 (v_m v_s v_v : Value) (Q : Value → World → Prop) (w : World) : Prop :=
 act Tryz.prog (Instr.box 72 v_s) (fun t4 w_1 => 
 rd Tryz.prog (binS .eql 89 false true v_m (.pointer none)) (fun t8 => 
 gd t8 false (fun k w_2 => rd Tryz.prog (Instr.loadAt 72 t4) (fun t10 => k t10 w_2) w_2) (fun t10_1 w_3 => 
 gd t8 false (fun k_1 w_4 => callS Tryz.prog 25 #[t10_1] (fun t11 w_5 => k_1 t11 w_5) w_4) (fun t11_1 w_6 => 
 gd t8 false (fun k_2 w_7 => pur Tryz.prog (Op.unary .not t11_1) fun t12 => k_2 t12 w_7) (fun t12_1 w_8 => 
 pur Tryz.prog (pickS t8 (.bool true) t12_1) fun t13 => 
 condS t13
  (Q (.bool false) w_8)
  (jn 0 (fun J => 
  ∃ S : World → Prop, S (World.drew w_8) ∧ 
 hld Tryz.prog S (Instr.loadAt 72 t4) fun t16 => 
  hld Tryz.prog S (Instr.loadAt 72 t4) fun t18 => 
  pur Tryz.prog (Instr.build 201 #[(0, t18), (1, v_v)]) fun t20 => 
  (callS Tryz.prog 172 #[v_m, t16] (fun t17 w_9 => S w_9 ∧ 
  act Tryz.prog (Instr.buildSlice 93 1 #[(0, t20)]) (fun t21 w_10 => S w_10 ∧ 
  act Tryz.prog (Builtin.append_ #[93, 93] 93 #[t17, t21]) (fun t22 w_11 => S w_11 ∧ 
  callS Tryz.prog 171 #[v_m, t22] (fun _ w_12 => S w_12 ∧ 
  J  w_12) w_11) w_10) w_9) (World.drew w_8)
  ) ∧ (act Tryz.prog (Instr.buildSlice 93 1 #[(0, t20)]) (fun t21_1 w_13 => S w_13 ∧ 
  callS Tryz.prog 172 #[v_m, t16] (fun t17_1 w_14 => S w_14 ∧ 
  act Tryz.prog (Builtin.append_ #[93, 93] 93 #[t17_1, t21_1]) (fun t22_1 w_15 => S w_15 ∧ 
  callS Tryz.prog 171 #[v_m, t22_1] (fun _ w_16 => S w_16 ∧ 
  J  w_16) w_15) w_14) w_13) (World.drew w_8)))
 (fun  w_17 => ∀ _j : Fr, 
  Q (.bool true) w_17))) w_6) w_3) w_1) w_1) w
theorem eq47 (v_m v_s v_v : Value) (Q : Value → World → Prop) (w : World) : semF Tryz.prog 47 [v_m, v_s, v_v] Q w = S47 v_m v_s v_v Q w := by kernel_rfl
theorem ref47 {v_m v_s v_v : Value} {Q : Value → World → Prop} {w : World} (h : S47 v_m v_s v_v Q w) : callS Tryz.prog 47 #[v_m, v_s, v_v] Q w :=
  callS_of mix (fun a w => Tryz.call47 a w) (by kernel_rfl) (by rw [eq47]; exact h)
-- (commons/commonsref1.Map).Set
def S48 (v_m v_s v_v : Value) (Q : Value → World → Prop) (w : World) : Prop :=
 act Tryz.prog (Instr.box 72 v_s) (fun t4 w_1 => 
 rd Tryz.prog (Instr.loadAt 72 t4) (fun t12 => 
 callS Tryz.prog 24 #[t12] (fun t13 w_2 => 
 pur Tryz.prog (Op.unary .not t13) fun t14 => 
 condS t14
  (Q v_m w_2)
  (rd Tryz.prog (Instr.loadAt 72 t4) (fun t17 => 
 callS Tryz.prog 50 #[v_m, t17] (fun t18 w_3 => 
 lp 1 (fun J => fun v_k w_4 => ∀ _j : Fr, 
  pur Tryz.prog (Builtin.len_ #[92] 3 #[t18]) fun t21 => 
  pur Tryz.prog (binS .lss 3 false false v_k t21) fun t22 => 
  gd t22 true (fun k w_5 => k t18 w_5) (fun t24_1 w_6 => 
  gd t22 true (fun k_1 w_7 => k_1 v_k w_7) (fun t25_1 w_8 => 
  gd t22 true (fun k_2 w_9 => pur Tryz.prog (Instr.indexAt 92 t24_1 t25_1) fun t26 => k_2 t26 w_9) (fun t26_1 w_10 => 
  gd t22 true (fun k_3 w_11 => pur Tryz.prog (Instr.fieldAt 101 t26_1 0) fun t27 => k_3 t27 w_11) (fun t27_1 w_12 => 
  gd t22 true (fun k_4 w_13 => pur Tryz.prog (Instr.fieldAt 72 t27_1 0) fun t28 => k_4 t28 w_13) (fun t28_1 w_14 => 
  gd t22 true (fun k_5 w_15 => rd Tryz.prog (Instr.loadAt 3 t28_1) (fun t29 => k_5 t29 w_15) w_15) (fun t29_1 w_16 => 
  gd t22 true (fun k_6 w_17 => pur Tryz.prog (Instr.fieldAt 72 t4 0) fun t30 => k_6 t30 w_17) (fun t30_1 w_18 => 
  gd t22 true (fun k_7 w_19 => rd Tryz.prog (Instr.loadAt 3 t30_1) (fun t31 => k_7 t31 w_19) w_19) (fun t31_1 w_20 => 
  gd t22 true (fun k_8 w_21 => pur Tryz.prog (binS .lss 3 false false t29_1 t31_1) fun t32 => k_8 t32 w_21) (fun t32_1 w_22 => 
  pur Tryz.prog (pickS t22 t32_1 (.bool false)) fun t33 => 
  condS t33
   (pur Tryz.prog (binS .add 3 false true v_k (.int .i64 1)) fun t35 => 
  J t35 w_22)
   (jn 1 (fun J_1 => 
  pur Tryz.prog (Instr.sliceAt 92 t18 none (some v_k) none) fun t38 => 
  pur Tryz.prog (Instr.sliceAt 92 t18 (some v_k) none none) fun t47 => 
  (act Tryz.prog (Builtin.append_ #[92, 92] 92 #[(.slice none 0 0), t38]) (fun t39 w_23 => 
  rd Tryz.prog (Instr.loadAt 72 t4) (fun t40 => 
  pur Tryz.prog (Instr.build 101 #[(0, t40), (1, v_v)]) fun t42 => 
  act Tryz.prog (Instr.buildSlice 92 1 #[(0, t42)]) (fun t43 w_24 => 
  act Tryz.prog (Builtin.append_ #[92, 92] 92 #[t39, t43]) (fun t44 w_25 => 
  act Tryz.prog (Builtin.append_ #[92, 92] 92 #[t44, t47]) (fun t48 w_26 => 
  J_1 t48 w_26) w_25) w_24) w_23) w_23) (World.drew w_22)
  ) ∧ (rd Tryz.prog (Instr.loadAt 72 t4) (fun t40_1 => 
  pur Tryz.prog (Instr.build 101 #[(0, t40_1), (1, v_v)]) fun t42_1 => 
  (act Tryz.prog (Builtin.append_ #[92, 92] 92 #[(.slice none 0 0), t38]) (fun t39_1 w_27 => 
  act Tryz.prog (Instr.buildSlice 92 1 #[(0, t42_1)]) (fun t43_1 w_28 => 
  act Tryz.prog (Builtin.append_ #[92, 92] 92 #[t39_1, t43_1]) (fun t44_1 w_29 => 
  act Tryz.prog (Builtin.append_ #[92, 92] 92 #[t44_1, t47]) (fun t48_1 w_30 => 
  J_1 t48_1 w_30) w_29) w_28) w_27) (World.drew w_22)
  ) ∧ (act Tryz.prog (Instr.buildSlice 92 1 #[(0, t42_1)]) (fun t43_2 w_31 => 
  act Tryz.prog (Builtin.append_ #[92, 92] 92 #[(.slice none 0 0), t38]) (fun t39_2 w_32 => 
  act Tryz.prog (Builtin.append_ #[92, 92] 92 #[t39_2, t43_2]) (fun t44_2 w_33 => 
  act Tryz.prog (Builtin.append_ #[92, 92] 92 #[t44_2, t47]) (fun t48_2 w_34 => 
  J_1 t48_2 w_34) w_33) w_32) w_31) (World.drew w_22))) (World.drew w_22)))
 (fun v_l w_35 => ∀ _j : Fr, 
  lp 2 (fun J_2 => fun v_out v_i w_36 => ∀ _j : Fr, 
  pur Tryz.prog (Builtin.len_ #[92] 3 #[v_l]) fun t51 => 
  pur Tryz.prog (binS .lss 3 false false v_i t51) fun t52 => 
  condS t52
   (jn 1 (fun J_3 => 
   pur Tryz.prog (Builtin.len_ #[92] 3 #[v_out]) fun t56 => 
   pur Tryz.prog (binS .gtr 3 false true t56 (.int .i64 0)) fun t58 => 
   gd t58 true (fun k_9 w_37 => k_9 v_out w_37) (fun t60_1 w_38 => 
   gd t58 true (fun k_10 w_39 => k_10 t56 w_39) (fun t61_1 w_40 => 
   gd t58 true (fun k_11 w_41 => pur Tryz.prog (binS .sub 3 false true t61_1 (.int .i64 1)) fun t62 => k_11 t62 w_41) (fun t62_1 w_42 => 
   gd t58 true (fun k_12 w_43 => pur Tryz.prog (Instr.indexAt 92 t60_1 t62_1) fun t63 => k_12 t63 w_43) (fun t63_1 w_44 => 
   gd t58 true (fun k_13 w_45 => pur Tryz.prog (Instr.fieldAt 101 t63_1 0) fun t64 => k_13 t64 w_45) (fun t64_1 w_46 => 
   gd t58 true (fun k_14 w_47 => pur Tryz.prog (Instr.fieldAt 72 t64_1 1) fun t65 => k_14 t65 w_47) (fun t65_1 w_48 => 
   gd t58 true (fun k_15 w_49 => rd Tryz.prog (Instr.loadAt 3 t65_1) (fun t66 => k_15 t66 w_49) w_49) (fun t66_1 w_50 => 
   gd t58 true (fun k_16 w_51 => k_16 v_l w_51) (fun t67_1 w_52 => 
   gd t58 true (fun k_17 w_53 => k_17 v_i w_53) (fun t68_1 w_54 => 
   gd t58 true (fun k_18 w_55 => pur Tryz.prog (Instr.indexAt 92 t67_1 t68_1) fun t69 => k_18 t69 w_55) (fun t69_1 w_56 => 
   gd t58 true (fun k_19 w_57 => pur Tryz.prog (Instr.fieldAt 101 t69_1 0) fun t70 => k_19 t70 w_57) (fun t70_1 w_58 => 
   gd t58 true (fun k_20 w_59 => pur Tryz.prog (Instr.fieldAt 72 t70_1 0) fun t71 => k_20 t71 w_59) (fun t71_1 w_60 => 
   gd t58 true (fun k_21 w_61 => rd Tryz.prog (Instr.loadAt 3 t71_1) (fun t72 => k_21 t72 w_61) w_61) (fun t72_1 w_62 => 
   gd t58 true (fun k_22 w_63 => pur Tryz.prog (binS .eql 3 false false t66_1 t72_1) fun t73 => k_22 t73 w_63) (fun t73_1 w_64 => 
   pur Tryz.prog (pickS t58 t73_1 (.bool false)) fun t74 => 
   gd t74 true (fun k_23 w_65 => k_23 v_out w_65) (fun t76_1 w_66 => 
   gd t74 true (fun k_24 w_67 => k_24 t56 w_67) (fun t77_1 w_68 => 
   gd t74 true (fun k_25 w_69 => pur Tryz.prog (binS .sub 3 false true t77_1 (.int .i64 1)) fun t78 => k_25 t78 w_69) (fun t78_1 w_70 => 
   gd t74 true (fun k_26 w_71 => pur Tryz.prog (Instr.indexAt 92 t76_1 t78_1) fun t79 => k_26 t79 w_71) (fun t79_1 w_72 => 
   gd t74 true (fun k_27 w_73 => pur Tryz.prog (Instr.fieldAt 101 t79_1 1) fun t80 => k_27 t80 w_73) (fun t80_1 w_74 => 
   gd t74 true (fun k_28 w_75 => rd Tryz.prog (Instr.loadAt 3 t80_1) (fun t81 => k_28 t81 w_75) w_75) (fun t81_1 w_76 => 
   gd t74 true (fun k_29 w_77 => k_29 v_l w_77) (fun t82_1 w_78 => 
   gd t74 true (fun k_30 w_79 => k_30 v_i w_79) (fun t83_1 w_80 => 
   gd t74 true (fun k_31 w_81 => pur Tryz.prog (Instr.indexAt 92 t82_1 t83_1) fun t84 => k_31 t84 w_81) (fun t84_1 w_82 => 
   gd t74 true (fun k_32 w_83 => pur Tryz.prog (Instr.fieldAt 101 t84_1 1) fun t85 => k_32 t85 w_83) (fun t85_1 w_84 => 
   gd t74 true (fun k_33 w_85 => rd Tryz.prog (Instr.loadAt 3 t85_1) (fun t86 => k_33 t86 w_85) w_85) (fun t86_1 w_86 => 
   gd t74 true (fun k_34 w_87 => pur Tryz.prog (binS .eql 3 false false t81_1 t86_1) fun t87 => k_34 t87 w_87) (fun t87_1 w_88 => 
   pur Tryz.prog (pickS t74 t87_1 (.bool false)) fun t88 => 
   condS t88
    (pur Tryz.prog (binS .sub 3 false true t56 (.int .i64 1)) fun t91 => 
    pur Tryz.prog (Instr.indexAt 92 v_l v_i) fun t94 => 
    pur Tryz.prog (Instr.fieldAt 101 t94 0) fun t95 => 
    pur Tryz.prog (Instr.fieldAt 72 t95 1) fun t96 => 
    rd Tryz.prog (Instr.loadAt 3 t96) (fun t97 => 
    pur Tryz.prog (Instr.indexAt 92 v_out t91) fun t98 => 
    pur Tryz.prog (Instr.fieldAt 101 t98 0) fun t99 => 
    pur Tryz.prog (Instr.fieldAt 72 t99 1) fun t100 => 
    act Tryz.prog (thenU (Instr.storeAt 3 t100 t97)) (fun _ w_89 => 
    J_3 v_out w_89) w_88) w_88)
    (pur Tryz.prog (Instr.indexAt 92 v_l v_i) fun t104 => 
    rd Tryz.prog (Instr.loadAt 101 t104) (fun t105 => 
    act Tryz.prog (Instr.buildSlice 92 1 #[(0, t105)]) (fun t106 w_90 => 
    act Tryz.prog (Builtin.append_ #[92, 92] 92 #[v_out, t106]) (fun t107 w_91 => 
    J_3 t107 w_91) w_90) w_88) w_88)) w_86) w_84) w_82) w_80) w_78) w_76) w_74) w_72) w_70) w_68) w_66) w_64) w_62) w_60) w_58) w_56) w_54) w_52) w_50) w_48) w_46) w_44) w_42) w_40) w_38) (World.drew w_36))
  (fun v_out_1 w_92 => ∀ _j : Fr, 
   pur Tryz.prog (binS .add 3 false true v_i (.int .i64 1)) fun t54 => 
   J_2 v_out_1 t54 w_92))
   (Q v_out w_36)) [(.slice none 0 0), (.int .i64 0)] w_35))) w_20) w_18) w_16) w_14) w_12) w_10) w_8) w_6) (World.drew w_4)) [(.int .i64 0)] w_3) w_2) w_2)) w_1) w_1) w
theorem eq48 (v_m v_s v_v : Value) (Q : Value → World → Prop) (w : World) : semF Tryz.prog 48 [v_m, v_s, v_v] Q w = S48 v_m v_s v_v Q w := by kernel_rfl
theorem ref48 {v_m v_s v_v : Value} {Q : Value → World → Prop} {w : World} (h : S48 v_m v_s v_v Q w) : callS Tryz.prog 48 #[v_m, v_s, v_v] Q w :=
  callS_of mix (fun a w => Tryz.call48 a w) (by kernel_rfl) (by rw [eq48]; exact h)
-- (commons/commonsref1.Map).Clear
def S50 (v_m v_s : Value) (Q : Value → World → Prop) (w : World) : Prop :=
 act Tryz.prog (Instr.box 72 v_s) (fun t3 w_1 => 
 rd Tryz.prog (Instr.loadAt 72 t3) (fun t8 => 
 callS Tryz.prog 24 #[t8] (fun t9 w_2 => 
 pur Tryz.prog (Op.unary .not t9) fun t10 => 
 condS t10
  (Q v_m w_2)
  (lp 2 (fun J => fun v_out v_i w_3 => ∀ _j : Fr, 
  pur Tryz.prog (Builtin.len_ #[92] 3 #[v_m]) fun t14 => 
  pur Tryz.prog (binS .lss 3 false false v_i t14) fun t15 => 
  condS t15
   (jn 1 (fun J_1 => 
   pur Tryz.prog (Instr.indexAt 92 v_m v_i) fun t20 => 
   rd Tryz.prog (Instr.loadAt 101 t20) (fun t21 => 
   act Tryz.prog (Instr.alloc 101 true (.tuple #[])) (fun t7 w_4 => 
   act Tryz.prog (thenU (Instr.storeAt 101 t7 t21)) (fun _ w_5 => 
   jn 1 (fun J_2 => 
    pur Tryz.prog (Instr.fieldAt 101 t7 0) fun t22 => 
    pur Tryz.prog (Instr.fieldAt 72 t22 0) fun t23 => 
    rd Tryz.prog (Instr.loadAt 3 t23) (fun t24 => 
    pur Tryz.prog (Instr.fieldAt 72 t3 0) fun t25 => 
    rd Tryz.prog (Instr.loadAt 3 t25) (fun t26 => 
    pur Tryz.prog (binS .lss 3 false false t24 t26) fun t27 => 
    condS t27
     (pur Tryz.prog (Instr.fieldAt 101 t7 0) fun t29 => 
     pur Tryz.prog (Instr.fieldAt 72 t29 0) fun t30 => 
     rd Tryz.prog (Instr.loadAt 3 t30) (fun t31 => 
     pur Tryz.prog (Instr.fieldAt 101 t7 0) fun t32 => 
     pur Tryz.prog (Instr.fieldAt 72 t32 1) fun t33 => 
     rd Tryz.prog (Instr.loadAt 3 t33) (fun t34 => 
     pur Tryz.prog (Instr.fieldAt 72 t3 0) fun t35 => 
     rd Tryz.prog (Instr.loadAt 3 t35) (fun t36 => 
     pur Tryz.prog (Builtin.min_ #[3, 3] 3 #[t34, t36]) fun t37 => 
     pur Tryz.prog (Instr.build 72 #[(0, t31), (1, t37)]) fun t38 => 
     pur Tryz.prog (Instr.fieldAt 101 t7 1) fun t39 => 
     rd Tryz.prog (Instr.loadAt 3 t39) (fun t40 => 
     pur Tryz.prog (Instr.build 101 #[(0, t38), (1, t40)]) fun t41 => 
     act Tryz.prog (Instr.buildSlice 92 1 #[(0, t41)]) (fun t42 w_6 => 
     act Tryz.prog (Builtin.append_ #[92, 92] 92 #[v_out, t42]) (fun t43 w_7 => 
     J_2 t43 w_7) w_6) w_5) w_5) w_5) w_5) w_5)
     (J_2 v_out w_5)) w_5) w_5)
   (fun v_out_1 w_8 => ∀ _j : Fr, 
    pur Tryz.prog (Instr.fieldAt 101 t7 0) fun t44 => 
    pur Tryz.prog (Instr.fieldAt 72 t44 1) fun t45 => 
    rd Tryz.prog (Instr.loadAt 3 t45) (fun t46 => 
    pur Tryz.prog (Instr.fieldAt 72 t3 1) fun t47 => 
    rd Tryz.prog (Instr.loadAt 3 t47) (fun t48 => 
    pur Tryz.prog (binS .gtr 3 false false t46 t48) fun t49 => 
    condS t49
     (pur Tryz.prog (Instr.fieldAt 101 t7 0) fun t51 => 
     pur Tryz.prog (Instr.fieldAt 72 t51 0) fun t52 => 
     rd Tryz.prog (Instr.loadAt 3 t52) (fun t53 => 
     pur Tryz.prog (Instr.fieldAt 72 t3 1) fun t54 => 
     rd Tryz.prog (Instr.loadAt 3 t54) (fun t55 => 
     pur Tryz.prog (Builtin.max_ #[3, 3] 3 #[t53, t55]) fun t56 => 
     pur Tryz.prog (Instr.fieldAt 101 t7 0) fun t57 => 
     pur Tryz.prog (Instr.fieldAt 72 t57 1) fun t58 => 
     rd Tryz.prog (Instr.loadAt 3 t58) (fun t59 => 
     pur Tryz.prog (Instr.build 72 #[(0, t56), (1, t59)]) fun t60 => 
     pur Tryz.prog (Instr.fieldAt 101 t7 1) fun t61 => 
     rd Tryz.prog (Instr.loadAt 3 t61) (fun t62 => 
     pur Tryz.prog (Instr.build 101 #[(0, t60), (1, t62)]) fun t63 => 
     act Tryz.prog (Instr.buildSlice 92 1 #[(0, t63)]) (fun t64 w_9 => 
     act Tryz.prog (Builtin.append_ #[92, 92] 92 #[v_out_1, t64]) (fun t65 w_10 => 
     J_1 t65 w_10) w_9) w_8) w_8) w_8) w_8) w_8)
     (J_1 v_out_1 w_8)) w_8) w_8)) w_4) w_3) w_3)
  (fun v_out_2 w_11 => ∀ _j : Fr, 
   pur Tryz.prog (binS .add 3 false true v_i (.int .i64 1)) fun t17 => 
   J v_out_2 t17 w_11))
   (Q v_out w_3)) [(.slice none 0 0), (.int .i64 0)] w_2)) w_1) w_1) w
theorem eq50 (v_m v_s : Value) (Q : Value → World → Prop) (w : World) : semF Tryz.prog 50 [v_m, v_s] Q w = S50 v_m v_s Q w := by kernel_rfl
theorem ref50 {v_m v_s : Value} {Q : Value → World → Prop} {w : World} (h : S50 v_m v_s Q w) : callS Tryz.prog 50 #[v_m, v_s] Q w :=
  callS_of mix (fun a w => Tryz.call50 a w) (by kernel_rfl) (by rw [eq50]; exact h)
-- (*commons/imap.Map[int]).All
def S53 (v_m : Value) (Q : Value → World → Prop) (w : World) : Prop :=
 rd Tryz.prog (binS .eql 89 false true v_m (.pointer none)) (fun t4 => 
 condS t4
  (Q (.slice none 0 0) w)
  (pur Tryz.prog (nilV v_m) fun t6 => 
 pur Tryz.prog (Instr.fieldAt 95 t6 0) fun t7 => 
 rd Tryz.prog (Instr.loadAt 93 t7) (fun t8 => 
 callS Tryz.prog 173 #[t8] (fun t9 w_1 => 
 Q t9 w_1) w) w)) w
theorem eq53 (v_m : Value) (Q : Value → World → Prop) (w : World) : semF Tryz.prog 53 [v_m] Q w = S53 v_m Q w := by kernel_rfl
theorem ref53 {v_m : Value} {Q : Value → World → Prop} {w : World} (h : S53 v_m Q w) : callS Tryz.prog 53 #[v_m] Q w :=
  callS_of mix (fun a w => Tryz.call53 a w) (by kernel_rfl) (by rw [eq53]; exact h)
-- (*commons/imap.Map[int]).Parts
def S54 (v_m v_s : Value) (Q : Value → World → Prop) (w : World) : Prop :=
 act Tryz.prog (Instr.box 72 v_s) (fun t3 w_1 => 
 rd Tryz.prog (binS .eql 89 false true v_m (.pointer none)) (fun t11 => 
 condS t11
  (Q (.slice none 0 0) w_1)
  (pur Tryz.prog (nilV v_m) fun t13 => 
 pur Tryz.prog (Instr.fieldAt 95 t13 0) fun t14 => 
 rd Tryz.prog (Instr.loadAt 93 t14) (fun t15 => 
 pur Tryz.prog (Builtin.len_ #[93] 3 #[t15]) fun t16 => 
 lp 2 (fun J => fun v_out t17 w_2 => ∀ _j : Fr, 
  pur Tryz.prog (binS .lss 3 false false t17 t16) fun t18 => 
  condS t18
   (jn 1 (fun J_1 => 
   pur Tryz.prog (Instr.indexAt 93 t15 t17) fun t19 => 
   rd Tryz.prog (Instr.loadAt 201 t19) (fun t20 => 
   act Tryz.prog (Instr.alloc 201 true (.tuple #[])) (fun t7 w_3 => 
   act Tryz.prog (thenU (Instr.storeAt 201 t7 t20)) (fun _ w_4 => 
   pur Tryz.prog (Instr.fieldAt 201 t7 0) fun t22 => 
   rd Tryz.prog (Instr.loadAt 72 t22) (fun t23 => 
   rd Tryz.prog (Instr.loadAt 72 t3) (fun t24 => 
   callS Tryz.prog 28 #[t23, t24] (fun t25 w_5 => 
   pur Tryz.prog (Instr.extract t25 0) fun t26 => 
   pur Tryz.prog (Instr.extract t25 1) fun t27 => 
   act Tryz.prog (Instr.alloc 72 true (.tuple #[])) (fun t8 w_6 => 
   act Tryz.prog (thenU (Instr.storeAt 72 t8 t26)) (fun _ w_7 => 
   condS t27
    (rd Tryz.prog (Instr.loadAt 72 t8) (fun t30 => 
    pur Tryz.prog (Instr.fieldAt 201 t7 1) fun t31 => 
    rd Tryz.prog (Instr.loadAt 3 t31) (fun t32 => 
    pur Tryz.prog (Instr.build 201 #[(0, t30), (1, t32)]) fun t33 => 
    act Tryz.prog (Instr.buildSlice 93 1 #[(0, t33)]) (fun t34 w_8 => 
    act Tryz.prog (Builtin.append_ #[93, 93] 93 #[v_out, t34]) (fun t35 w_9 => 
    J_1 t35 w_9) w_8) w_7) w_7) w_7)
    (J_1 v_out w_7)) w_6) w_5) w_4) w_4) w_4) w_3) w_2) w_2)
  (fun v_out_1 w_10 => ∀ _j : Fr, 
   pur Tryz.prog (binS .add 3 false true t17 (.int .i64 1)) fun t36 => 
   J v_out_1 t36 w_10))
   (Q v_out w_2)) [(.slice none 0 0), (.int .i64 0)] w_1) w_1)) w_1) w
theorem eq54 (v_m v_s : Value) (Q : Value → World → Prop) (w : World) : semF Tryz.prog 54 [v_m, v_s] Q w = S54 v_m v_s Q w := by kernel_rfl
theorem ref54 {v_m v_s : Value} {Q : Value → World → Prop} {w : World} (h : S54 v_m v_s Q w) : callS Tryz.prog 54 #[v_m, v_s] Q w :=
  callS_of mix (fun a w => Tryz.call54 a w) (by kernel_rfl) (by rw [eq54]; exact h)
-- (*commons/imap.Map[int]).Get
def S57 (v_m v_block : Value) (Q : Value → World → Prop) (w : World) : Prop :=
 rd Tryz.prog (binS .eql 89 false true v_m (.pointer none)) (fun t10 => 
 condS t10
  (Q (.tuple #[(.int .i64 0), (.bool false)]) w)
  (pur Tryz.prog (nilV v_m) fun t13 => 
 pur Tryz.prog (Instr.fieldAt 95 t13 0) fun t14 => 
 rd Tryz.prog (Instr.loadAt 93 t14) (fun t15 => 
 pur Tryz.prog (Builtin.len_ #[93] 3 #[t15]) fun t16 => 
 lp 1 (fun J => fun t17 w_1 => ∀ _j : Fr, 
  pur Tryz.prog (binS .lss 3 false false t17 t16) fun t18 => 
  condS t18
   (pur Tryz.prog (Instr.indexAt 93 t15 t17) fun t19 => 
  rd Tryz.prog (Instr.loadAt 201 t19) (fun t20 => 
  act Tryz.prog (Instr.alloc 201 true (.tuple #[])) (fun t8 w_2 => 
  act Tryz.prog (thenU (Instr.storeAt 201 t8 t20)) (fun _ w_3 => 
  pur Tryz.prog (Instr.fieldAt 201 t8 0) fun t21 => 
  rd Tryz.prog (Instr.loadAt 72 t21) (fun t22 => 
  callS Tryz.prog 27 #[t22, v_block] (fun t24 w_4 => 
  condS t24
   (pur Tryz.prog (Instr.fieldAt 201 t8 1) fun t25 => 
   rd Tryz.prog (Instr.loadAt 3 t25) (fun t26 => 
   Q (.tuple #[t26, (.bool true)]) w_4) w_4)
   (pur Tryz.prog (binS .add 3 false true t17 (.int .i64 1)) fun t27 => 
  J t27 w_4)) w_3) w_3) w_2) w_1) w_1)
   (Q (.tuple #[(.int .i64 0), (.bool false)]) w_1)) [(.int .i64 0)] w) w)) w
theorem eq57 (v_m v_block : Value) (Q : Value → World → Prop) (w : World) : semF Tryz.prog 57 [v_m, v_block] Q w = S57 v_m v_block Q w := by kernel_rfl
theorem ref57 {v_m v_block : Value} {Q : Value → World → Prop} {w : World} (h : S57 v_m v_block Q w) : callS Tryz.prog 57 #[v_m, v_block] Q w :=
  callS_of mix (fun a w => Tryz.call57 a w) (by kernel_rfl) (by rw [eq57]; exact h)
-- (commons/commonsref1.Map).Get
def S58 (v_m v_block : Value) (Q : Value → World → Prop) (w : World) : Prop :=
 lp 1 (fun J => fun v_i w_1 => ∀ _j : Fr, 
  pur Tryz.prog (Builtin.len_ #[92] 3 #[v_m]) fun t9 => 
  pur Tryz.prog (binS .lss 3 false false v_i t9) fun t10 => 
  condS t10
   (pur Tryz.prog (Instr.indexAt 92 v_m v_i) fun t15 => 
  pur Tryz.prog (Instr.fieldAt 101 t15 0) fun t16 => 
  pur Tryz.prog (Instr.fieldAt 72 t16 0) fun t17 => 
  rd Tryz.prog (Instr.loadAt 3 t17) (fun t18 => 
  pur Tryz.prog (binS .leq 3 false false t18 v_block) fun t20 => 
  gd t20 true (fun k w_2 => k v_block w_2) (fun t22_1 w_3 => 
  gd t20 true (fun k_1 w_4 => k_1 v_m w_4) (fun t23_1 w_5 => 
  gd t20 true (fun k_2 w_6 => k_2 v_i w_6) (fun t24_1 w_7 => 
  gd t20 true (fun k_3 w_8 => pur Tryz.prog (Instr.indexAt 92 t23_1 t24_1) fun t25 => k_3 t25 w_8) (fun t25_1 w_9 => 
  gd t20 true (fun k_4 w_10 => pur Tryz.prog (Instr.fieldAt 101 t25_1 0) fun t26 => k_4 t26 w_10) (fun t26_1 w_11 => 
  gd t20 true (fun k_5 w_12 => pur Tryz.prog (Instr.fieldAt 72 t26_1 1) fun t27 => k_5 t27 w_12) (fun t27_1 w_13 => 
  gd t20 true (fun k_6 w_14 => rd Tryz.prog (Instr.loadAt 3 t27_1) (fun t28 => k_6 t28 w_14) w_14) (fun t28_1 w_15 => 
  gd t20 true (fun k_7 w_16 => pur Tryz.prog (binS .lss 3 false false t22_1 t28_1) fun t29 => k_7 t29 w_16) (fun t29_1 w_17 => 
  pur Tryz.prog (pickS t20 t29_1 (.bool false)) fun t30 => 
  condS t30
   (pur Tryz.prog (Instr.indexAt 92 v_m v_i) fun t33 => 
   pur Tryz.prog (Instr.fieldAt 101 t33 1) fun t34 => 
   rd Tryz.prog (Instr.loadAt 3 t34) (fun t35 => 
   Q (.tuple #[t35, (.bool true)]) w_17) w_17)
   (pur Tryz.prog (binS .add 3 false true v_i (.int .i64 1)) fun t12 => 
  J t12 w_17)) w_15) w_13) w_11) w_9) w_7) w_5) w_3) w_1) w_1)
   (Q (.tuple #[(.int .i64 0), (.bool false)]) w_1)) [(.int .i64 0)] w
theorem eq58 (v_m v_block : Value) (Q : Value → World → Prop) (w : World) : semF Tryz.prog 58 [v_m, v_block] Q w = S58 v_m v_block Q w := by kernel_rfl
theorem ref58 {v_m v_block : Value} {Q : Value → World → Prop} {w : World} (h : S58 v_m v_block Q w) : callS Tryz.prog 58 #[v_m, v_block] Q w :=
  callS_of mix (fun a w => Tryz.call58 a w) (by kernel_rfl) (by rw [eq58]; exact h)
-- commons/commonsbook.LentLocks
def S64 (v_l : Value) (Q : Value → World → Prop) (w : World) : Prop :=
 act Tryz.prog (Builtin.append_ #[109, 109] 109 #[(.slice none 0 0), v_l]) (fun t4 w_1 => 
 pur Tryz.prog (Instr.build 143 #[(1, (.int .i64 (-77)))]) fun t5 => 
 act Tryz.prog (Instr.buildSlice 109 1 #[(0, t5)]) (fun t6 w_2 => 
 act Tryz.prog (Builtin.append_ #[109, 109] 109 #[t4, t6]) (fun t7 w_3 => 
 pur Tryz.prog (Builtin.len_ #[109] 3 #[v_l]) fun t9 => 
 pur Tryz.prog (Instr.sliceAt 109 t7 none (some t9) none) fun t10 => 
 Q t10 w_3) w_2) w_1) w
theorem eq64 (v_l : Value) (Q : Value → World → Prop) (w : World) : semF Tryz.prog 64 [v_l] Q w = S64 v_l Q w := by kernel_rfl
theorem ref64 {v_l : Value} {Q : Value → World → Prop} {w : World} (h : S64 v_l Q w) : callS Tryz.prog 64 #[v_l] Q w :=
  callS_of mix (fun a w => Tryz.call64 a w) (by kernel_rfl) (by rw [eq64]; exact h)
-- commons/mode.Norm
def S65 (v_l : Value) (Q : Value → World → Prop) (w : World) : Prop :=
 callS Tryz.prog 180 #[v_l] (fun t4 w_1 => 
 callS Tryz.prog 179 #[t4] (fun t5 w_2 => 
 Q t5 w_2) w_1) w
theorem eq65 (v_l : Value) (Q : Value → World → Prop) (w : World) : semF Tryz.prog 65 [v_l] Q w = S65 v_l Q w := by kernel_rfl
theorem ref65 {v_l : Value} {Q : Value → World → Prop} {w : World} (h : S65 v_l Q w) : callS Tryz.prog 65 #[v_l] Q w :=
  callS_of mix (fun a w => Tryz.call65 a w) (by kernel_rfl) (by rw [eq65]; exact h)
-- (*commons/commonsbook.Book).Locks
def S67 (v_b v_l : Value) (Q : Value → World → Prop) (w : World) : Prop :=
 pur Tryz.prog (nilV v_b) fun t5 => 
 pur Tryz.prog (Instr.fieldAt 51 t5 8) fun t6 => 
 rd Tryz.prog (Instr.loadAt 39 t6) (fun t7 => 
 pur Tryz.prog (Builtin.len_ #[39] 3 #[t7]) fun t8 => 
 pur Tryz.prog (binS .lss 3 false true t8 (.int .i64 250)) fun t9 => 
 condS t9
  (pur Tryz.prog (nilV v_b) fun t12 => 
  pur Tryz.prog (Instr.fieldAt 51 t12 8) fun t13 => 
  rd Tryz.prog (Instr.loadAt 39 t13) (fun t14 => 
  act Tryz.prog (Instr.buildSlice 39 1 #[(0, v_l)]) (fun t16 w_1 => 
  act Tryz.prog (Builtin.append_ #[39, 39] 39 #[t14, t16]) (fun t17 w_2 => 
  pur Tryz.prog (nilV v_b) fun t18 => 
  pur Tryz.prog (Instr.fieldAt 51 t18 8) fun t19 => 
  act Tryz.prog (thenU (Instr.storeAt 39 t19 t17)) (fun _ w_3 => 
  jn 0 (fun J => 
   pur Tryz.prog (nilV v_b) fun t22 => 
   pur Tryz.prog (Instr.fieldAt 51 t22 9) fun t23 => 
   (rd Tryz.prog (Instr.loadAt 39 t23) (fun t24 => 
   callS Tryz.prog 182 #[v_l] (fun t26 w_4 => 
   act Tryz.prog (Instr.buildSlice 39 1 #[(0, t26)]) (fun t27 w_5 => 
   act Tryz.prog (Builtin.append_ #[39, 39] 39 #[t24, t27]) (fun t28 w_6 => 
   pur Tryz.prog (nilV v_b) fun t29 => 
   pur Tryz.prog (Instr.fieldAt 51 t29 9) fun t30 => 
   act Tryz.prog (thenU (Instr.storeAt 39 t30 t28)) (fun _ w_7 => 
   J  w_7) w_6) w_5) w_4) (World.drew w_3)) (World.drew w_3)
   ) ∧ (callS Tryz.prog 182 #[v_l] (fun t26_1 w_8 => 
   (rd Tryz.prog (Instr.loadAt 39 t23) (fun t24_1 => 
   act Tryz.prog (Instr.buildSlice 39 1 #[(0, t26_1)]) (fun t27_1 w_9 => 
   act Tryz.prog (Builtin.append_ #[39, 39] 39 #[t24_1, t27_1]) (fun t28_1 w_10 => 
   pur Tryz.prog (nilV v_b) fun t29_1 => 
   pur Tryz.prog (Instr.fieldAt 51 t29_1 9) fun t30_1 => 
   act Tryz.prog (thenU (Instr.storeAt 39 t30_1 t28_1)) (fun _ w_11 => 
   J  w_11) w_10) w_9) w_8) w_8
   ) ∧ (act Tryz.prog (Instr.buildSlice 39 1 #[(0, t26_1)]) (fun t27_2 w_12 => 
   rd Tryz.prog (Instr.loadAt 39 t23) (fun t24_2 => 
   act Tryz.prog (Builtin.append_ #[39, 39] 39 #[t24_2, t27_2]) (fun t28_2 w_13 => 
   pur Tryz.prog (nilV v_b) fun t29_2 => 
   pur Tryz.prog (Instr.fieldAt 51 t29_2 9) fun t30_2 => 
   act Tryz.prog (thenU (Instr.storeAt 39 t30_2 t28_2)) (fun _ w_14 => 
   J  w_14) w_13) w_12) w_12) w_8)) (World.drew w_3)))
  (fun  w_15 => ∀ _j : Fr, 
   Q (.tuple #[]) w_15)) w_2) w_1) w) w)
  (Q (.tuple #[]) w)) w
theorem eq67 (v_b v_l : Value) (Q : Value → World → Prop) (w : World) : semF Tryz.prog 67 [v_b, v_l] Q w = S67 v_b v_l Q w := by kernel_rfl
theorem ref67 {v_b v_l : Value} {Q : Value → World → Prop} {w : World} (h : S67 v_b v_l Q w) : callS Tryz.prog 67 #[v_b, v_l] Q w :=
  callS_of mix (fun a w => Tryz.call67 a w) (by kernel_rfl) (by rw [eq67]; exact h)
-- commons/commonsbook.SameLocks
def S69 (v_a v_b : Value) (Q : Value → World → Prop) (w : World) : Prop :=
 pur Tryz.prog (Builtin.len_ #[109] 3 #[v_a]) fun t7 => 
 pur Tryz.prog (Builtin.len_ #[109] 3 #[v_b]) fun t9 => 
 pur Tryz.prog (binS .neq 3 false false t7 t9) fun t10 => 
 condS t10
  (Q (.bool false) w)
  (lp 1 (fun J => fun v_i w_1 => ∀ _j : Fr, 
  pur Tryz.prog (Builtin.len_ #[109] 3 #[v_a]) fun t13 => 
  pur Tryz.prog (binS .lss 3 false false v_i t13) fun t14 => 
  condS t14
   (pur Tryz.prog (Instr.indexAt 109 v_a v_i) fun t19 => 
  rd Tryz.prog (Instr.loadAt 143 t19) (fun t20 => 
  pur Tryz.prog (Instr.indexAt 109 v_b v_i) fun t23 => 
  rd Tryz.prog (Instr.loadAt 143 t23) (fun t24 => 
  rd Tryz.prog (binS .eql 143 false false t20 t24) (fun t25 => 
  pur Tryz.prog (Op.unary .not t25) fun t26 => 
  condS t26
   (Q (.bool false) (World.drew w_1))
   (pur Tryz.prog (binS .add 3 false true v_i (.int .i64 1)) fun t16 => 
  J t16 (World.drew w_1))) (World.drew w_1)) (World.drew w_1)) (World.drew w_1))
   (Q (.bool true) w_1)) [(.int .i64 0)] w)
theorem eq69 (v_a v_b : Value) (Q : Value → World → Prop) (w : World) : semF Tryz.prog 69 [v_a, v_b] Q w = S69 v_a v_b Q w := by kernel_rfl
theorem ref69 {v_a v_b : Value} {Q : Value → World → Prop} {w : World} (h : S69 v_a v_b Q w) : callS Tryz.prog 69 #[v_a, v_b] Q w :=
  callS_of mix (fun a w => Tryz.call69 a w) (by kernel_rfl) (by rw [eq69]; exact h)
-- commons/commonsref14.Locks
def S70 (v_m : Value) (Q : Value → World → Prop) (w : World) : Prop :=
 lp 2 (fun J => fun v_out v_i w_1 => ∀ _j : Fr, 
  pur Tryz.prog (Builtin.len_ #[92] 3 #[v_m]) fun t7 => 
  pur Tryz.prog (binS .lss 3 false false v_i t7) fun t8 => 
  condS t8
   (pur Tryz.prog (Instr.indexAt 92 v_m v_i) fun t14 => 
  pur Tryz.prog (Instr.fieldAt 101 t14 0) fun t15 => 
  rd Tryz.prog (Instr.loadAt 72 t15) (fun t16 => 
  pur Tryz.prog (Instr.indexAt 92 v_m v_i) fun t19 => 
  pur Tryz.prog (Instr.fieldAt 101 t19 1) fun t20 => 
  rd Tryz.prog (Instr.loadAt 3 t20) (fun t21 => 
  pur Tryz.prog (Instr.build 143 #[(0, t16), (1, t21)]) fun t22 => 
  act Tryz.prog (Instr.buildSlice 109 1 #[(0, t22)]) (fun t23 w_2 => 
  act Tryz.prog (Builtin.append_ #[109, 109] 109 #[v_out, t23]) (fun t24 w_3 => 
  pur Tryz.prog (binS .add 3 false true v_i (.int .i64 1)) fun t10 => 
  J t24 t10 w_3) w_2) (World.drew w_1)) (World.drew w_1)) (World.drew w_1))
   (Q v_out w_1)) [(.slice none 0 0), (.int .i64 0)] w
theorem eq70 (v_m : Value) (Q : Value → World → Prop) (w : World) : semF Tryz.prog 70 [v_m] Q w = S70 v_m Q w := by kernel_rfl
theorem ref70 {v_m : Value} {Q : Value → World → Prop} {w : World} (h : S70 v_m Q w) : callS Tryz.prog 70 #[v_m] Q w :=
  callS_of mix (fun a w => Tryz.call70 a w) (by kernel_rfl) (by rw [eq70]; exact h)
-- commons/commonsref14.Norm
def S71 (v_l : Value) (Q : Value → World → Prop) (w : World) : Prop :=
 lp 2 (fun J => fun v_m v_mode w_1 => ∀ _j : Fr, 
  pur Tryz.prog (binS .leq 3 false true v_mode (.int .i64 2)) fun t7 => 
  condS t7
   (lp 2 (fun J_1 => fun v_m_1 v_i w_2 => ∀ _j : Fr, 
   pur Tryz.prog (Builtin.len_ #[109] 3 #[v_l]) fun t12 => 
   pur Tryz.prog (binS .lss 3 false false v_i t12) fun t13 => 
   condS t13
    (jn 1 (fun J_2 => 
    pur Tryz.prog (Instr.indexAt 109 v_l v_i) fun t18 => 
    pur Tryz.prog (Instr.fieldAt 143 t18 1) fun t19 => 
    rd Tryz.prog (Instr.loadAt 3 t19) (fun t20 => 
    pur Tryz.prog (binS .eql 3 false false t20 v_mode) fun t22 => 
    condS t22
     (pur Tryz.prog (Instr.indexAt 109 v_l v_i) fun t26 => 
     pur Tryz.prog (Instr.fieldAt 143 t26 0) fun t27 => 
     rd Tryz.prog (Instr.loadAt 72 t27) (fun t28 => 
     callS Tryz.prog 48 #[v_m_1, t28, v_mode] (fun t30 w_3 => 
     J_2 t30 w_3) w_2) w_2)
     (J_2 v_m_1 w_2)) w_2)
   (fun v_m_2 w_4 => ∀ _j : Fr, 
    pur Tryz.prog (binS .add 3 false true v_i (.int .i64 1)) fun t15 => 
    J_1 v_m_2 t15 w_4))
    (pur Tryz.prog (binS .add 3 false true v_mode (.int .i64 1)) fun t9 => 
  J v_m_1 t9 w_2)) [v_m, (.int .i64 0)] w_1)
   (Q v_m w_1)) [(.slice none 0 0), (.int .i64 1)] w
theorem eq71 (v_l : Value) (Q : Value → World → Prop) (w : World) : semF Tryz.prog 71 [v_l] Q w = S71 v_l Q w := by kernel_rfl
theorem ref71 {v_l : Value} {Q : Value → World → Prop} {w : World} (h : S71 v_l Q w) : callS Tryz.prog 71 #[v_l] Q w :=
  callS_of mix (fun a w => Tryz.call71 a w) (by kernel_rfl) (by rw [eq71]; exact h)
-- commons/commonsbook.StaysLocks
def S73 (v_m v_was : Value) (Q : Value → World → Prop) (w : World) : Prop :=
 callS Tryz.prog 69 #[v_m, v_was] (fun t7 w_1 => 
 gd t7 true (fun k w_2 => k v_m w_2) (fun t9_1 w_3 => 
 gd t7 true (fun k_1 w_4 => k_1 v_m w_4) (fun t10_1 w_5 => 
 gd t7 true (fun k_2 w_6 => pur Tryz.prog (Builtin.len_ #[109] 3 #[t10_1]) fun t11 => k_2 t11 w_6) (fun t11_1 w_7 => 
 gd t7 true (fun k_3 w_8 => pur Tryz.prog (binS .add 3 false true t11_1 (.int .i64 1)) fun t12 => k_3 t12 w_8) (fun t12_1 w_9 => 
 gd t7 true (fun k_4 w_10 => pur Tryz.prog (Instr.sliceAt 109 t9_1 none (some t12_1) none) fun t13 => k_4 t13 w_10) (fun t13_1 w_11 => 
 gd t7 true (fun k_5 w_12 => k_5 v_m w_12) (fun t14_1 w_13 => 
 gd t7 true (fun k_6 w_14 => pur Tryz.prog (Builtin.len_ #[109] 3 #[t14_1]) fun t15 => k_6 t15 w_14) (fun t15_1 w_15 => 
 gd t7 true (fun k_7 w_16 => pur Tryz.prog (Instr.indexAt 109 t13_1 t15_1) fun t16 => k_7 t16 w_16) (fun t16_1 w_17 => 
 gd t7 true (fun k_8 w_18 => pur Tryz.prog (Instr.fieldAt 143 t16_1 1) fun t17 => k_8 t17 w_18) (fun t17_1 w_19 => 
 gd t7 true (fun k_9 w_20 => rd Tryz.prog (Instr.loadAt 3 t17_1) (fun t18 => k_9 t18 w_20) w_20) (fun t18_1 w_21 => 
 gd t7 true (fun k_10 w_22 => pur Tryz.prog (binS .eql 3 false true t18_1 (.int .i64 (-77))) fun t19 => k_10 t19 w_22) (fun t19_1 w_23 => 
 pur Tryz.prog (pickS t7 t19_1 (.bool false)) fun t20 => 
 Q t20 w_23) w_21) w_19) w_17) w_15) w_13) w_11) w_9) w_7) w_5) w_3) w_1) w
theorem eq73 (v_m v_was : Value) (Q : Value → World → Prop) (w : World) : semF Tryz.prog 73 [v_m, v_was] Q w = S73 v_m v_was Q w := by kernel_rfl
theorem ref73 {v_m v_was : Value} {Q : Value → World → Prop} {w : World} (h : S73 v_m v_was Q w) : callS Tryz.prog 73 #[v_m, v_was] Q w :=
  callS_of mix (fun a w => Tryz.call73 a w) (by kernel_rfl) (by rw [eq73]; exact h)
-- commons/commonslaw24.alive
def S74 (Q : Value → World → Prop) (w : World) : Prop :=
 callS Tryz.prog 75 #[] (fun t10 w_1 => 
 pur Tryz.prog (Instr.build 72 #[(1, (.int .i64 5))]) fun t11 => 
 pur Tryz.prog (Instr.build 143 #[(0, t11), (1, (.int .i64 1))]) fun t12 => 
 act Tryz.prog (Instr.buildSlice 109 1 #[(0, t12)]) (fun t13 w_2 => 
 callS Tryz.prog 76 #[t10, t13] (fun t14 w_3 => 
 pur Tryz.prog (Instr.extract t14 0) fun t15 => 
 pur Tryz.prog (Instr.extract t14 1) fun t16 => 
 pur Tryz.prog (binS .neq 126 false true t16 (.int .i64 0)) fun t18 => 
 gd t18 false (fun k w_4 => k t15 w_4) (fun t20_1 w_5 => 
 gd t18 false (fun k_1 w_6 => rd Tryz.prog (binS .eql 125 false true t20_1 (.pointer none)) (fun t21 => k_1 t21 w_6) w_6) (fun t21_1 w_7 => 
 pur Tryz.prog (pickS t18 (.bool true) t21_1) fun t22 => 
 gd t22 false (fun k_2 w_8 => k_2 t15 w_8) (fun t24_1 w_9 => 
 gd t22 false (fun k_3 w_10 => callS Tryz.prog 81 #[t24_1, (.int .i64 3), (.string ⟨#[120]⟩)] (fun t25 w_11 => k_3 t25 w_11) w_10) (fun t25_1 w_12 => 
 gd t22 false (fun k_4 w_13 => pur Tryz.prog (binS .neq 126 false true t25_1 (.int .i64 13)) fun t26 => k_4 t26 w_13) (fun t26_1 w_14 => 
 pur Tryz.prog (pickS t22 (.bool true) t26_1) fun t27 => 
 condS t27
  (Q (.bool false) w_14)
  (callS Tryz.prog 84 #[t15, (.int .i64 3)] (fun t30 w_15 => 
 pur Tryz.prog (Instr.extract t30 0) fun t31 => 
 pur Tryz.prog (Instr.extract t30 1) fun t32 => 
 act Tryz.prog (Instr.alloc 143 true (.tuple #[])) (fun t3 w_16 => 
 act Tryz.prog (thenU (Instr.storeAt 143 t3 t31)) (fun _ w_17 => 
 callS Tryz.prog 85 #[t15, (.int .i64 3)] (fun t34 w_18 => 
 callS Tryz.prog 81 #[t15, (.int .i64 3), (.string ⟨#[120]⟩)] (fun t36 w_19 => 
 callS Tryz.prog 91 #[t15, (.int .i64 3)] (fun t39 w_20 => 
 pur Tryz.prog (Instr.extract t39 0) fun t40 => 
 pur Tryz.prog (Instr.extract t39 1) fun t41 => 
 gd t32 true (fun k_5 w_21 => rd Tryz.prog (Instr.loadAt 143 t3) (fun t44 => k_5 t44 w_21) w_21) (fun t44_1 w_22 => 
 gd t32 true (fun k_6 w_23 => pur Tryz.prog (Instr.build 72 #[(0, (.int .i64 3)), (1, (.int .i64 4))]) fun t45 => k_6 t45 w_23) (fun t45_1 w_24 => 
 gd t32 true (fun k_7 w_25 => pur Tryz.prog (Instr.build 143 #[(0, t45_1), (1, (.int .i64 2))]) fun t46 => k_7 t46 w_25) (fun t46_1 w_26 => 
 gd t32 true (fun k_8 w_27 => rd Tryz.prog (binS .eql 143 false false t44_1 t46_1) (fun t47 => k_8 t47 w_27) w_27) (fun t47_1 w_28 => 
 pur Tryz.prog (pickS t32 t47_1 (.bool false)) fun t48 => 
 gd t48 true (fun k_9 w_29 => k_9 t34 w_29) (fun t50_1 w_30 => 
 pur Tryz.prog (pickS t48 t50_1 (.bool false)) fun t51 => 
 gd t51 true (fun k_10 w_31 => k_10 t36 w_31) (fun t53_1 w_32 => 
 gd t51 true (fun k_11 w_33 => pur Tryz.prog (binS .eql 126 false true t53_1 (.int .i64 0)) fun t54 => k_11 t54 w_33) (fun t54_1 w_34 => 
 pur Tryz.prog (pickS t51 t54_1 (.bool false)) fun t55 => 
 gd t55 true (fun k_12 w_35 => k_12 t41 w_35) (fun t57_1 w_36 => 
 pur Tryz.prog (pickS t55 t57_1 (.bool false)) fun t58 => 
 gd t58 true (fun k_13 w_37 => k_13 t40 w_37) (fun t60_1 w_38 => 
 gd t58 true (fun k_14 w_39 => pur Tryz.prog (Builtin.len_ #[9] 3 #[t60_1]) fun t61 => k_14 t61 w_39) (fun t61_1 w_40 => 
 gd t58 true (fun k_15 w_41 => pur Tryz.prog (binS .eql 3 false true t61_1 (.int .i64 96)) fun t62 => k_15 t62 w_41) (fun t62_1 w_42 => 
 pur Tryz.prog (pickS t58 t62_1 (.bool false)) fun t63 => 
 gd t63 true (fun k_16 w_43 => k_16 t40 w_43) (fun t65_1 w_44 => 
 gd t63 true (fun k_17 w_45 => pur Tryz.prog (Instr.index 9 t65_1 (.int .i64 0)) fun t66 => k_17 t66 w_45) (fun t66_1 w_46 => 
 gd t63 true (fun k_18 w_47 => pur Tryz.prog (binS .eql 5 false true t66_1 (.int .u8 120)) fun t67 => k_18 t67 w_47) (fun t67_1 w_48 => 
 pur Tryz.prog (pickS t63 t67_1 (.bool false)) fun t68 => 
 Q t68 w_48) w_46) w_44) w_42) w_40) w_38) w_36) w_34) w_32) w_30) w_28) w_26) w_24) w_22) w_20) w_19) w_18) w_17) w_16) w_15) w_14)) w_12) w_9) w_7) w_5) w_3) w_2) w_1) w
theorem eq74 (Q : Value → World → Prop) (w : World) : semF Tryz.prog 74 [] Q w = S74 Q w := by kernel_rfl
theorem ref74 {Q : Value → World → Prop} {w : World} (h : S74 Q w) : callS Tryz.prog 74 #[] Q w :=
  callS_of mix (fun a w => Tryz.call74 a w) (by kernel_rfl) (by rw [eq74]; exact h)
-- commons/commonslaw9.Shape
def S75 (Q : Value → World → Prop) (w : World) : Prop :=
 act Tryz.prog (Instr.alloc 122 true (.tuple #[])) (fun t0 w_1 => 
 pur Tryz.prog (Instr.build 122 #[(0, (.int .i64 2)), (1, (.int .i64 10)), (2, (.int .i64 8)), (3, (.int .i64 4)), (4, (.int .i64 32))]) fun t1 => 
 act Tryz.prog (thenU (Instr.storeAt 122 t0 t1)) (fun _ w_2 => 
 rd Tryz.prog (resL 122 t0) (fun r => Q r w_2) w_2) w_1) w
theorem eq75 (Q : Value → World → Prop) (w : World) : semF Tryz.prog 75 [] Q w = S75 Q w := by kernel_rfl
theorem ref75 {Q : Value → World → Prop} {w : World} (h : S75 Q w) : callS Tryz.prog 75 #[] Q w :=
  callS_of mix (fun a w => Tryz.call75 a w) (by kernel_rfl) (by rw [eq75]; exact h)
-- commons/tx.New
def S76 (v_s v_l : Value) (Q : Value → World → Prop) (w : World) : Prop :=
 act Tryz.prog (Instr.box 122 v_s) (fun t2 w_1 => 
 rd Tryz.prog (Instr.loadAt 122 t2) (fun t10 => 
 callS Tryz.prog 78 #[t10, v_l] (fun t12 w_2 => 
 pur Tryz.prog (binS .neq 126 false true t12 (.int .i64 0)) fun t14 => 
 condS t14
  (Q (.tuple #[(.pointer none), t12]) w_2)
  (jn 1 (fun J => 
  ∃ S : World → Prop, S (World.drew w_2) ∧ 
 hld Tryz.prog S (Instr.loadAt 122 t2) fun t16 => 
  (callS Tryz.prog 46 #[] (fun t17 w_3 => S w_3 ∧ 
  (act Tryz.prog (Instr.makeMap 208 none) (fun t18 w_4 => S w_4 ∧ 
  act Tryz.prog (Instr.makeMap 208 none) (fun t19 w_5 => S w_5 ∧ 
  pur Tryz.prog (Instr.build 210 #[(0, t16), (1, t17), (2, t18), (3, t19)]) fun t20 => 
  act Tryz.prog (Instr.box 210 t20) (fun t21 w_6 => S w_6 ∧ 
  J t21 w_6) w_5) w_4) w_3
  ) ∧ (act Tryz.prog (Instr.makeMap 208 none) (fun t19_1 w_7 => S w_7 ∧ 
  act Tryz.prog (Instr.makeMap 208 none) (fun t18_1 w_8 => S w_8 ∧ 
  pur Tryz.prog (Instr.build 210 #[(0, t16), (1, t17), (2, t18_1), (3, t19_1)]) fun t20_1 => 
  act Tryz.prog (Instr.box 210 t20_1) (fun t21_1 w_9 => S w_9 ∧ 
  J t21_1 w_9) w_8) w_7) w_3)) (World.drew w_2)
  ) ∧ (act Tryz.prog (Instr.makeMap 208 none) (fun t18_2 w_10 => S w_10 ∧ 
  (callS Tryz.prog 46 #[] (fun t17_1 w_11 => S w_11 ∧ 
  act Tryz.prog (Instr.makeMap 208 none) (fun t19_2 w_12 => S w_12 ∧ 
  pur Tryz.prog (Instr.build 210 #[(0, t16), (1, t17_1), (2, t18_2), (3, t19_2)]) fun t20_2 => 
  act Tryz.prog (Instr.box 210 t20_2) (fun t21_2 w_13 => S w_13 ∧ 
  J t21_2 w_13) w_12) w_11) w_10
  ) ∧ (act Tryz.prog (Instr.makeMap 208 none) (fun t19_3 w_14 => S w_14 ∧ 
  callS Tryz.prog 46 #[] (fun t17_2 w_15 => S w_15 ∧ 
  pur Tryz.prog (Instr.build 210 #[(0, t16), (1, t17_2), (2, t18_2), (3, t19_3)]) fun t20_3 => 
  act Tryz.prog (Instr.box 210 t20_3) (fun t21_3 w_16 => S w_16 ∧ 
  J t21_3 w_16) w_15) w_14) w_10)) (World.drew w_2)
  ) ∧ (act Tryz.prog (Instr.makeMap 208 none) (fun t19_4 w_17 => S w_17 ∧ 
  (callS Tryz.prog 46 #[] (fun t17_3 w_18 => S w_18 ∧ 
  act Tryz.prog (Instr.makeMap 208 none) (fun t18_3 w_19 => S w_19 ∧ 
  pur Tryz.prog (Instr.build 210 #[(0, t16), (1, t17_3), (2, t18_3), (3, t19_4)]) fun t20_4 => 
  act Tryz.prog (Instr.box 210 t20_4) (fun t21_4 w_20 => S w_20 ∧ 
  J t21_4 w_20) w_19) w_18) w_17
  ) ∧ (act Tryz.prog (Instr.makeMap 208 none) (fun t18_4 w_21 => S w_21 ∧ 
  callS Tryz.prog 46 #[] (fun t17_4 w_22 => S w_22 ∧ 
  pur Tryz.prog (Instr.build 210 #[(0, t16), (1, t17_4), (2, t18_4), (3, t19_4)]) fun t20_5 => 
  act Tryz.prog (Instr.box 210 t20_5) (fun t21_5 w_23 => S w_23 ∧ 
  J t21_5 w_23) w_22) w_21) w_17)) (World.drew w_2)))
 (fun v_t w_24 => ∀ _j : Fr, 
  callS Tryz.prog 65 #[v_l] (fun t23 w_25 => 
 pur Tryz.prog (Builtin.len_ #[109] 3 #[t23]) fun t24 => 
 lp 1 (fun J_1 => fun t25 w_26 => ∀ _j : Fr, 
  pur Tryz.prog (binS .lss 3 false false t25 t24) fun t26 => 
  condS t26
   (pur Tryz.prog (Instr.indexAt 109 t23 t25) fun t27 => 
  rd Tryz.prog (Instr.loadAt 143 t27) (fun t28 => 
  act Tryz.prog (Instr.alloc 143 true (.tuple #[])) (fun t9 w_27 => 
  act Tryz.prog (thenU (Instr.storeAt 143 t9 t28)) (fun _ w_28 => 
  pur Tryz.prog (nilV v_t) fun t30 => 
  pur Tryz.prog (Instr.fieldAt 210 t30 1) fun t31 => 
  rd Tryz.prog (Instr.loadAt 89 t31) (fun t32 => 
  pur Tryz.prog (Instr.fieldAt 143 t9 0) fun t33 => 
  rd Tryz.prog (Instr.loadAt 72 t33) (fun t34 => 
  pur Tryz.prog (Instr.fieldAt 143 t9 1) fun t35 => 
  rd Tryz.prog (Instr.loadAt 3 t35) (fun t36 => 
  callS Tryz.prog 47 #[t32, t34, t36] (fun _ w_29 => 
  pur Tryz.prog (binS .add 3 false true t25 (.int .i64 1)) fun t38 => 
  J_1 t38 w_29) (World.drew w_28)) (World.drew w_28)) (World.drew w_28)) (World.drew w_28)) w_27) w_26) w_26)
   (Q (.tuple #[v_t, (.int .i64 0)]) w_26)) [(.int .i64 0)] w_25) w_24))) w_1) w_1) w
theorem eq76 (v_s v_l : Value) (Q : Value → World → Prop) (w : World) : semF Tryz.prog 76 [v_s, v_l] Q w = S76 v_s v_l Q w := by kernel_rfl
theorem ref76 {v_s v_l : Value} {Q : Value → World → Prop} {w : World} (h : S76 v_s v_l Q w) : callS Tryz.prog 76 #[v_s, v_l] Q w :=
  callS_of mix (fun a w => Tryz.call76 a w) (by kernel_rfl) (by rw [eq76]; exact h)
-- commons/commonslaw24.check
def S77 (v_s v_l : Value) (Q : Value → World → Prop) (w : World) : Prop :=
 act Tryz.prog (Instr.box 122 v_s) (fun t2 w_1 => 
 rd Tryz.prog (Instr.loadAt 122 t2) (fun t7 => 
 callS Tryz.prog 183 #[t7] (fun t8 w_2 => 
 pur Tryz.prog (Op.unary .not t8) fun t9 => 
 condS t9
  (Q (.int .i64 1) w_2)
  (pur Tryz.prog (Builtin.len_ #[109] 3 #[v_l]) fun t11 => 
 pur Tryz.prog (binS .lss 3 false true t11 (.int .i64 1)) fun t12 => 
 gd t12 false (fun k w_3 => k v_l w_3) (fun t14_1 w_4 => 
 gd t12 false (fun k_1 w_5 => pur Tryz.prog (Builtin.len_ #[109] 3 #[t14_1]) fun t15 => k_1 t15 w_5) (fun t15_1 w_6 => 
 gd t12 false (fun k_2 w_7 => pur Tryz.prog (binS .gtr 3 false true t15_1 (.int .i64 16)) fun t16 => k_2 t16 w_7) (fun t16_1 w_8 => 
 pur Tryz.prog (pickS t12 (.bool true) t16_1) fun t17 => 
 condS t17
  (Q (.int .i64 2) w_8)
  (lp 1 (fun J => fun v_i w_9 => ∀ _j : Fr, 
  pur Tryz.prog (Builtin.len_ #[109] 3 #[v_l]) fun t20 => 
  pur Tryz.prog (binS .lss 3 false false v_i t20) fun t21 => 
  condS t21
   (pur Tryz.prog (Instr.indexAt 109 v_l v_i) fun t26 => 
  pur Tryz.prog (Instr.fieldAt 143 t26 1) fun t27 => 
  rd Tryz.prog (Instr.loadAt 3 t27) (fun t28 => 
  pur Tryz.prog (binS .neq 3 false true t28 (.int .i64 1)) fun t29 => 
  gd t29 true (fun k_3 w_10 => k_3 v_l w_10) (fun t31_1 w_11 => 
  gd t29 true (fun k_4 w_12 => k_4 v_i w_12) (fun t32_1 w_13 => 
  gd t29 true (fun k_5 w_14 => pur Tryz.prog (Instr.indexAt 109 t31_1 t32_1) fun t33 => k_5 t33 w_14) (fun t33_1 w_15 => 
  gd t29 true (fun k_6 w_16 => pur Tryz.prog (Instr.fieldAt 143 t33_1 1) fun t34 => k_6 t34 w_16) (fun t34_1 w_17 => 
  gd t29 true (fun k_7 w_18 => rd Tryz.prog (Instr.loadAt 3 t34_1) (fun t35 => k_7 t35 w_18) w_18) (fun t35_1 w_19 => 
  gd t29 true (fun k_8 w_20 => pur Tryz.prog (binS .neq 3 false true t35_1 (.int .i64 2)) fun t36 => k_8 t36 w_20) (fun t36_1 w_21 => 
  pur Tryz.prog (pickS t29 t36_1 (.bool false)) fun t37 => 
  condS t37
   (Q (.int .i64 1) w_21)
   (pur Tryz.prog (binS .add 3 false true v_i (.int .i64 1)) fun t23 => 
  J t23 w_21)) w_19) w_17) w_15) w_13) w_11) w_9) w_9)
   (lp 1 (fun J_1 => fun v_i_1 w_22 => ∀ _j : Fr, 
  pur Tryz.prog (Builtin.len_ #[109] 3 #[v_l]) fun t40 => 
  pur Tryz.prog (binS .lss 3 false false v_i_1 t40) fun t41 => 
  condS t41
   (pur Tryz.prog (Instr.indexAt 109 v_l v_i_1) fun t46 => 
  pur Tryz.prog (Instr.fieldAt 143 t46 0) fun t47 => 
  rd Tryz.prog (Instr.loadAt 72 t47) (fun t48 => 
  callS Tryz.prog 24 #[t48] (fun t49 w_23 => 
  pur Tryz.prog (Op.unary .not t49) fun t50 => 
  gd t50 false (fun k_9 w_24 => k_9 v_l w_24) (fun t52_1 w_25 => 
  gd t50 false (fun k_10 w_26 => k_10 v_i_1 w_26) (fun t53_1 w_27 => 
  gd t50 false (fun k_11 w_28 => pur Tryz.prog (Instr.indexAt 109 t52_1 t53_1) fun t54 => k_11 t54 w_28) (fun t54_1 w_29 => 
  gd t50 false (fun k_12 w_30 => pur Tryz.prog (Instr.fieldAt 143 t54_1 0) fun t55 => k_12 t55 w_30) (fun t55_1 w_31 => 
  gd t50 false (fun k_13 w_32 => pur Tryz.prog (Instr.fieldAt 72 t55_1 1) fun t56 => k_13 t56 w_32) (fun t56_1 w_33 => 
  gd t50 false (fun k_14 w_34 => rd Tryz.prog (Instr.loadAt 3 t56_1) (fun t57 => k_14 t57 w_34) w_34) (fun t57_1 w_35 => 
  gd t50 false (fun k_15 w_36 => pur Tryz.prog (Instr.fieldAt 122 t2 1) fun t58 => k_15 t58 w_36) (fun t58_1 w_37 => 
  gd t50 false (fun k_16 w_38 => rd Tryz.prog (Instr.loadAt 3 t58_1) (fun t59 => k_16 t59 w_38) w_38) (fun t59_1 w_39 => 
  gd t50 false (fun k_17 w_40 => pur Tryz.prog (binS .gtr 3 false false t57_1 t59_1) fun t60 => k_17 t60 w_40) (fun t60_1 w_41 => 
  pur Tryz.prog (pickS t50 (.bool true) t60_1) fun t61 => 
  condS t61
   (Q (.int .i64 30) w_41)
   (pur Tryz.prog (binS .add 3 false true v_i_1 (.int .i64 1)) fun t43 => 
  J_1 t43 w_41)) w_39) w_37) w_35) w_33) w_31) w_29) w_27) w_25) w_23) (World.drew w_22)) (World.drew w_22))
   (Q (.int .i64 0) w_22)) [(.int .i64 0)] w_9)) [(.int .i64 0)] w_8)) w_6) w_4) w_2)) w_1) w_1) w
theorem eq77 (v_s v_l : Value) (Q : Value → World → Prop) (w : World) : semF Tryz.prog 77 [v_s, v_l] Q w = S77 v_s v_l Q w := by kernel_rfl
theorem ref77 {v_s v_l : Value} {Q : Value → World → Prop} {w : World} (h : S77 v_s v_l Q w) : callS Tryz.prog 77 #[v_s, v_l] Q w :=
  callS_of mix (fun a w => Tryz.call77 a w) (by kernel_rfl) (by rw [eq77]; exact h)
-- commons/tx.Check
def S78 (v_s v_l : Value) (Q : Value → World → Prop) (w : World) : Prop :=
 act Tryz.prog (Instr.box 122 v_s) (fun t2 w_1 => 
 rd Tryz.prog (Instr.loadAt 122 t2) (fun t10 => 
 callS Tryz.prog 184 #[t10] (fun t11 w_2 => 
 pur Tryz.prog (Op.unary .not t11) fun t12 => 
 condS t12
  (Q (.int .i64 1) w_2)
  (pur Tryz.prog (Builtin.len_ #[109] 3 #[v_l]) fun t15 => 
  pur Tryz.prog (binS .eql 3 false true t15 (.int .i64 0)) fun t16 => 
  gd t16 false (fun k w_3 => k v_l w_3) (fun t18_1 w_4 => 
  gd t16 false (fun k_1 w_5 => pur Tryz.prog (Builtin.len_ #[109] 3 #[t18_1]) fun t19 => k_1 t19 w_5) (fun t19_1 w_6 => 
  gd t16 false (fun k_2 w_7 => pur Tryz.prog (binS .gtr 3 false true t19_1 (.int .i64 16)) fun t20 => k_2 t20 w_7) (fun t20_1 w_8 => 
  pur Tryz.prog (pickS t16 (.bool true) t20_1) fun t21 => 
  condS t21
   (Q (.int .i64 2) w_8)
   (pur Tryz.prog (Builtin.len_ #[109] 3 #[v_l]) fun t23 => 
 lp 1 (fun J => fun t24 w_9 => ∀ _j : Fr, 
  pur Tryz.prog (binS .lss 3 false false t24 t23) fun t25 => 
  condS t25
   (pur Tryz.prog (Instr.indexAt 109 v_l t24) fun t26 => 
  rd Tryz.prog (Instr.loadAt 143 t26) (fun t27 => 
  act Tryz.prog (Instr.alloc 143 true (.tuple #[])) (fun t6 w_10 => 
  act Tryz.prog (thenU (Instr.storeAt 143 t6 t27)) (fun _ w_11 => 
  pur Tryz.prog (Instr.fieldAt 143 t6 1) fun t28 => 
  rd Tryz.prog (Instr.loadAt 3 t28) (fun t29 => 
  pur Tryz.prog (binS .neq 3 false true t29 (.int .i64 1)) fun t30 => 
  gd t30 true (fun k_3 w_12 => pur Tryz.prog (Instr.fieldAt 143 t6 1) fun t32 => k_3 t32 w_12) (fun t32_1 w_13 => 
  gd t30 true (fun k_4 w_14 => rd Tryz.prog (Instr.loadAt 3 t32_1) (fun t33 => k_4 t33 w_14) w_14) (fun t33_1 w_15 => 
  gd t30 true (fun k_5 w_16 => pur Tryz.prog (binS .neq 3 false true t33_1 (.int .i64 2)) fun t34 => k_5 t34 w_16) (fun t34_1 w_17 => 
  pur Tryz.prog (pickS t30 t34_1 (.bool false)) fun t35 => 
  condS t35
   (Q (.int .i64 1) w_17)
   (pur Tryz.prog (binS .add 3 false true t24 (.int .i64 1)) fun t36 => 
  J t36 w_17)) w_15) w_13) w_11) w_11) w_10) w_9) w_9)
   (pur Tryz.prog (Builtin.len_ #[109] 3 #[v_l]) fun t38 => 
 lp 1 (fun J_1 => fun t39 w_18 => ∀ _j : Fr, 
  pur Tryz.prog (binS .lss 3 false false t39 t38) fun t40 => 
  condS t40
   (pur Tryz.prog (Instr.indexAt 109 v_l t39) fun t41 => 
  rd Tryz.prog (Instr.loadAt 143 t41) (fun t42 => 
  act Tryz.prog (Instr.alloc 143 true (.tuple #[])) (fun t8 w_19 => 
  act Tryz.prog (thenU (Instr.storeAt 143 t8 t42)) (fun _ w_20 => 
  pur Tryz.prog (Instr.fieldAt 143 t8 0) fun t43 => 
  rd Tryz.prog (Instr.loadAt 72 t43) (fun t44 => 
  callS Tryz.prog 25 #[t44] (fun t45 w_21 => 
  pur Tryz.prog (Op.unary .not t45) fun t46 => 
  gd t46 false (fun k_6 w_22 => pur Tryz.prog (Instr.fieldAt 143 t8 0) fun t48 => k_6 t48 w_22) (fun t48_1 w_23 => 
  gd t46 false (fun k_7 w_24 => pur Tryz.prog (Instr.fieldAt 72 t48_1 1) fun t49 => k_7 t49 w_24) (fun t49_1 w_25 => 
  gd t46 false (fun k_8 w_26 => rd Tryz.prog (Instr.loadAt 3 t49_1) (fun t50 => k_8 t50 w_26) w_26) (fun t50_1 w_27 => 
  gd t46 false (fun k_9 w_28 => pur Tryz.prog (Instr.fieldAt 122 t2 1) fun t51 => k_9 t51 w_28) (fun t51_1 w_29 => 
  gd t46 false (fun k_10 w_30 => rd Tryz.prog (Instr.loadAt 3 t51_1) (fun t52 => k_10 t52 w_30) w_30) (fun t52_1 w_31 => 
  gd t46 false (fun k_11 w_32 => pur Tryz.prog (binS .gtr 3 false false t50_1 t52_1) fun t53 => k_11 t53 w_32) (fun t53_1 w_33 => 
  pur Tryz.prog (pickS t46 (.bool true) t53_1) fun t54 => 
  condS t54
   (Q (.int .i64 30) w_33)
   (pur Tryz.prog (binS .add 3 false true t39 (.int .i64 1)) fun t55 => 
  J_1 t55 w_33)) w_31) w_29) w_27) w_25) w_23) w_21) w_20) w_20) w_19) w_18) w_18)
   (Q (.int .i64 0) w_18)) [(.int .i64 0)] w_9)) [(.int .i64 0)] w_8)) w_6) w_4) w_2)) w_1) w_1) w
theorem eq78 (v_s v_l : Value) (Q : Value → World → Prop) (w : World) : semF Tryz.prog 78 [v_s, v_l] Q w = S78 v_s v_l Q w := by kernel_rfl
theorem ref78 {v_s v_l : Value} {Q : Value → World → Prop} {w : World} (h : S78 v_s v_l Q w) : callS Tryz.prog 78 #[v_s, v_l] Q w :=
  callS_of mix (fun a w => Tryz.call78 a w) (by kernel_rfl) (by rw [eq78]; exact h)
-- commons/commonsref8.Most
def S79 (v_log : Value) (Q : Value → World → Prop) (w : World) : Prop :=
 lp 2 (fun J => fun v_most v_n w_1 => ∀ _j : Fr, 
  pur Tryz.prog (binS .leq 3 false true v_n (.int .i64 60)) fun t6 => 
  gd t6 true (fun k w_2 => k v_log w_2) (fun t8_1 w_3 => 
  gd t6 true (fun k_1 w_4 => pur Tryz.prog (binS .geq 3 false true t8_1 (.int .i64 1)) fun t9 => k_1 t9 w_4) (fun t9_1 w_5 => 
  pur Tryz.prog (pickS t6 t9_1 (.bool false)) fun t10 => 
  gd t10 true (fun k_2 w_6 => k_2 v_log w_6) (fun t12_1 w_7 => 
  gd t10 true (fun k_3 w_8 => pur Tryz.prog (binS .leq 3 false true t12_1 (.int .i64 100000)) fun t13 => k_3 t13 w_8) (fun t13_1 w_9 => 
  pur Tryz.prog (pickS t10 t13_1 (.bool false)) fun t14 => 
  condS t14
   (jn 1 (fun J_1 => 
   callS Tryz.prog 185 #[v_n] (fun t18 w_10 => 
   pur Tryz.prog (binS .sub 3 false true v_log (.int .i64 1)) fun t20 => 
   pur Tryz.prog (binS .quo 3 false true t20 (.int .i64 2)) fun t21 => 
   pur Tryz.prog (binS .leq 3 false false t18 t21) fun t22 => 
   condS t22
    (J_1 v_n w_10)
    (J_1 v_most w_10)) w_9)
  (fun v_most_1 w_11 => ∀ _j : Fr, 
   pur Tryz.prog (binS .add 3 false true v_n (.int .i64 1)) fun t16 => 
   J v_most_1 t16 w_11))
   (Q v_most w_9)) w_7) w_5) w_3) w_1) [(.int .i64 0), (.int .i64 1)] w
theorem eq79 (v_log : Value) (Q : Value → World → Prop) (w : World) : semF Tryz.prog 79 [v_log] Q w = S79 v_log Q w := by kernel_rfl
theorem ref79 {v_log : Value} {Q : Value → World → Prop} {w : World} (h : S79 v_log Q w) : callS Tryz.prog 79 #[v_log] Q w :=
  callS_of mix (fun a w => Tryz.call79 a w) (by kernel_rfl) (by rw [eq79]; exact h)
-- commons/commonsref8.Pad
def S80 (v_s : Value) (Q : Value → World → Prop) (w : World) : Prop :=
 pur Tryz.prog (Builtin.len_ #[9] 3 #[v_s]) fun t5 => 
 pur Tryz.prog (binS .gtr 3 false true t5 (.int .i64 96)) fun t6 => 
 condS t6
  (Q (.tuple #[(.string ⟨#[]⟩), (.int .i64 2)]) w)
  (pur Tryz.prog (Builtin.len_ #[9] 3 #[v_s]) fun t9 => 
 pur Tryz.prog (binS .sub 3 true false (.int .i64 96) t9) fun t10 => 
 act Tryz.prog (Instr.makeSlice 212 t10 t10) (fun t11 w_1 => 
 act Tryz.prog (convert 212 9 t11) (fun t12 w_2 => 
 pur Tryz.prog (binS .add 9 false false v_s t12) fun t13 => 
 Q (.tuple #[t13, (.int .i64 0)]) w_2) w_1) w)
theorem eq80 (v_s : Value) (Q : Value → World → Prop) (w : World) : semF Tryz.prog 80 [v_s] Q w = S80 v_s Q w := by kernel_rfl
theorem ref80 {v_s : Value} {Q : Value → World → Prop} {w : World} (h : S80 v_s Q w) : callS Tryz.prog 80 #[v_s] Q w :=
  callS_of mix (fun a w => Tryz.call80 a w) (by kernel_rfl) (by rw [eq80]; exact h)
-- (*commons/tx.Tx).Write
def S81 (v_t v_at v_data : Value) (Q : Value → World → Prop) (w : World) : Prop :=
 callS Tryz.prog 92 #[v_t, v_at] (fun t16 w_1 => 
 pur Tryz.prog (binS .neq 126 false true t16 (.int .i64 0)) fun t18 => 
 condS t18
  (Q t16 w_1)
  (callS Tryz.prog 186 #[v_data] (fun t22 w_2 => 
 pur Tryz.prog (Instr.extract t22 0) fun t23 => 
 pur Tryz.prog (Instr.extract t22 1) fun t24 => 
 pur Tryz.prog (binS .neq 126 false true t24 (.int .i64 0)) fun t26 => 
 condS t26
  (Q t24 w_2)
  (pur Tryz.prog (nilV v_t) fun t30 => 
 pur Tryz.prog (Instr.fieldAt 210 t30 1) fun t31 => 
 rd Tryz.prog (Instr.loadAt 89 t31) (fun t32 => 
 callS Tryz.prog 57 #[t32, v_at] (fun t34 w_3 => 
 pur Tryz.prog (Instr.extract t34 0) fun t35 => 
 pur Tryz.prog (Instr.extract t34 1) fun _ => 
 pur Tryz.prog (binS .neq 3 false true t35 (.int .i64 2)) fun t38 => 
 condS t38
  (Q (.int .i64 13) w_3)
  (pur Tryz.prog (nilV v_t) fun t41 => 
 pur Tryz.prog (Instr.fieldAt 210 t41 2) fun t42 => 
 rd Tryz.prog (Instr.loadAt 208 t42) (fun t43 => 
 rd Tryz.prog (Instr.lookup 208 t43 v_at true) (fun t45 => 
 pur Tryz.prog (Instr.extract t45 0) fun _ => 
 pur Tryz.prog (Instr.extract t45 1) fun t47 => 
 ∃ S : World → Prop, S (World.drew w_3) ∧ 
 pur Tryz.prog (Op.unary .not t47) fun t49 => 
 gd t49 true (fun k w_4 => k v_t w_4) (fun t51_1 w_5 => 
 gd t49 true (fun k_1 w_6 => pur Tryz.prog (nilV t51_1) fun t52 => k_1 t52 w_6) (fun t52_1 w_7 => 
 gd t49 true (fun k_2 w_8 => pur Tryz.prog (Instr.fieldAt 210 t52_1 2) fun t53 => k_2 t53 w_8) (fun t53_1 w_9 => 
 gd t49 true (fun k_3 w_10 => hld Tryz.prog S (Instr.loadAt 208 t53_1) fun t54 => k_3 t54 w_10) (fun t54_1 w_11 => 
 gd t49 true (fun k_4 w_12 => hld Tryz.prog S (Builtin.len_ #[208] 3 #[t54_1]) fun t55 => k_4 t55 w_12) (fun t55_1 w_13 => 
 gd t49 true (fun k_5 w_14 => k_5 v_t w_14) (fun t56_1 w_15 => 
 gd t49 true (fun k_6 w_16 => pur Tryz.prog (nilV t56_1) fun t57 => k_6 t57 w_16) (fun t57_1 w_17 => 
 gd t49 true (fun k_7 w_18 => pur Tryz.prog (Instr.fieldAt 210 t57_1 0) fun t58 => k_7 t58 w_18) (fun t58_1 w_19 => 
 gd t49 true (fun k_8 w_20 => pur Tryz.prog (Instr.fieldAt 122 t58_1 2) fun t59 => k_8 t59 w_20) (fun t59_1 w_21 => 
 gd t49 true (fun k_9 w_22 => hld Tryz.prog S (Instr.loadAt 3 t59_1) fun t60 => k_9 t60 w_22) (fun t60_1 w_23 => 
 gd t49 true (fun k_10 w_24 => callS Tryz.prog 187 #[t60_1] (fun t61 w_25 => S w_25 ∧ k_10 t61 w_25) w_24) (fun t61_1 w_26 => 
 gd t49 true (fun k_11 w_27 => k_11 v_t w_27) (fun t62_1 w_28 => 
 gd t49 true (fun k_12 w_29 => pur Tryz.prog (nilV t62_1) fun t63 => k_12 t63 w_29) (fun t63_1 w_30 => 
 gd t49 true (fun k_13 w_31 => pur Tryz.prog (Instr.fieldAt 210 t63_1 0) fun t64 => k_13 t64 w_31) (fun t64_1 w_32 => 
 gd t49 true (fun k_14 w_33 => pur Tryz.prog (Instr.fieldAt 122 t64_1 3) fun t65 => k_14 t65 w_33) (fun t65_1 w_34 => 
 gd t49 true (fun k_15 w_35 => hld Tryz.prog S (Instr.loadAt 3 t65_1) fun t66 => k_15 t66 w_35) (fun t66_1 w_36 => 
 gd t49 true (fun k_16 w_37 => pur Tryz.prog (Builtin.min_ #[3, 3] 3 #[t61_1, t66_1]) fun t67 => k_16 t67 w_37) (fun t67_1 w_38 => 
 gd t49 true (fun k_17 w_39 => pur Tryz.prog (binS .geq 3 false false t55_1 t67_1) fun t68 => k_17 t68 w_39) (fun t68_1 w_40 => 
 pur Tryz.prog (pickS t49 t68_1 (.bool false)) fun t69 => 
 condS t69
  (Q (.int .i64 31) w_40)
  (pur Tryz.prog (nilV v_t) fun t71 => 
 pur Tryz.prog (Instr.fieldAt 210 t71 2) fun t72 => 
 rd Tryz.prog (Instr.loadAt 208 t72) (fun t73 => 
 act Tryz.prog (thenU (Instr.mapUpdate 208 t73 v_at t23)) (fun _ w_41 => 
 Q (.int .i64 0) w_41) w_40) w_40)) w_38) w_36) w_34) w_32) w_30) w_28) w_26) w_23) w_21) w_19) w_17) w_15) w_13) w_11) w_9) w_7) w_5) (World.drew w_3)) w_3) w_3)) w_2) w_2)) w_1)) w
theorem eq81 (v_t v_at v_data : Value) (Q : Value → World → Prop) (w : World) : semF Tryz.prog 81 [v_t, v_at, v_data] Q w = S81 v_t v_at v_data Q w := by kernel_rfl
theorem ref81 {v_t v_at v_data : Value} {Q : Value → World → Prop} {w : World} (h : S81 v_t v_at v_data Q w) : callS Tryz.prog 81 #[v_t, v_at, v_data] Q w :=
  callS_of mix (fun a w => Tryz.call81 a w) (by kernel_rfl) (by rw [eq81]; exact h)
-- commons/commonslaw24.put
def S82 (v_l v_x v_last : Value) (Q : Value → World → Prop) (w : World) : Prop :=
 act Tryz.prog (Instr.box 138 v_x) (fun t4 w_1 => 
 lp 1 (fun J => fun v_k w_2 => ∀ _j : Fr, 
  pur Tryz.prog (Builtin.len_ #[131] 3 #[v_l]) fun t10 => 
  pur Tryz.prog (binS .lss 3 false false v_k t10) fun t11 => 
  gd t11 true (fun k w_3 => k v_l w_3) (fun t13_1 w_4 => 
  gd t11 true (fun k_1 w_5 => k_1 v_k w_5) (fun t14_1 w_6 => 
  gd t11 true (fun k_2 w_7 => pur Tryz.prog (Instr.indexAt 131 t13_1 t14_1) fun t15 => k_2 t15 w_7) (fun t15_1 w_8 => 
  gd t11 true (fun k_3 w_9 => pur Tryz.prog (Instr.fieldAt 138 t15_1 0) fun t16 => k_3 t16 w_9) (fun t16_1 w_10 => 
  gd t11 true (fun k_4 w_11 => rd Tryz.prog (Instr.loadAt 3 t16_1) (fun t17 => k_4 t17 w_11) w_11) (fun t17_1 w_12 => 
  gd t11 true (fun k_5 w_13 => pur Tryz.prog (Instr.fieldAt 138 t4 0) fun t18 => k_5 t18 w_13) (fun t18_1 w_14 => 
  gd t11 true (fun k_6 w_15 => rd Tryz.prog (Instr.loadAt 3 t18_1) (fun t19 => k_6 t19 w_15) w_15) (fun t19_1 w_16 => 
  gd t11 true (fun k_7 w_17 => pur Tryz.prog (binS .lss 3 false false t17_1 t19_1) fun t20 => k_7 t20 w_17) (fun t20_1 w_18 => 
  pur Tryz.prog (pickS t11 t20_1 (.bool false)) fun t21 => 
  condS t21
   (pur Tryz.prog (binS .add 3 false true v_k (.int .i64 1)) fun t23 => 
  J t23 w_18)
   (pur Tryz.prog (Builtin.len_ #[131] 3 #[v_l]) fun t26 => 
 pur Tryz.prog (binS .lss 3 false false v_k t26) fun t27 => 
 gd t27 true (fun k_8 w_19 => k_8 v_l w_19) (fun t29_1 w_20 => 
 gd t27 true (fun k_9 w_21 => k_9 v_k w_21) (fun t30_1 w_22 => 
 gd t27 true (fun k_10 w_23 => pur Tryz.prog (Instr.indexAt 131 t29_1 t30_1) fun t31 => k_10 t31 w_23) (fun t31_1 w_24 => 
 gd t27 true (fun k_11 w_25 => pur Tryz.prog (Instr.fieldAt 138 t31_1 0) fun t32 => k_11 t32 w_25) (fun t32_1 w_26 => 
 gd t27 true (fun k_12 w_27 => rd Tryz.prog (Instr.loadAt 3 t32_1) (fun t33 => k_12 t33 w_27) w_27) (fun t33_1 w_28 => 
 gd t27 true (fun k_13 w_29 => pur Tryz.prog (Instr.fieldAt 138 t4 0) fun t34 => k_13 t34 w_29) (fun t34_1 w_30 => 
 gd t27 true (fun k_14 w_31 => rd Tryz.prog (Instr.loadAt 3 t34_1) (fun t35 => k_14 t35 w_31) w_31) (fun t35_1 w_32 => 
 gd t27 true (fun k_15 w_33 => pur Tryz.prog (binS .eql 3 false false t33_1 t35_1) fun t36 => k_15 t36 w_33) (fun t36_1 w_34 => 
 pur Tryz.prog (pickS t27 t36_1 (.bool false)) fun t37 => 
 condS t37
  (pur Tryz.prog (Op.unary .not v_last) fun t39 => 
  condS t39
   (Q v_l w_34)
   (jn 1 (fun J_1 => 
   pur Tryz.prog (Instr.sliceAt 131 v_l none (some v_k) none) fun t43 => 
   pur Tryz.prog (binS .add 3 false true v_k (.int .i64 1)) fun t50 => 
   pur Tryz.prog (Instr.sliceAt 131 v_l (some t50) none none) fun t51 => 
   (act Tryz.prog (Builtin.append_ #[131, 131] 131 #[(.slice none 0 0), t43]) (fun t44 w_35 => 
   rd Tryz.prog (Instr.loadAt 138 t4) (fun t45 => 
   act Tryz.prog (Instr.buildSlice 131 1 #[(0, t45)]) (fun t46 w_36 => 
   act Tryz.prog (Builtin.append_ #[131, 131] 131 #[t44, t46]) (fun t47 w_37 => 
   act Tryz.prog (Builtin.append_ #[131, 131] 131 #[t47, t51]) (fun t52 w_38 => 
   J_1 t52 w_38) w_37) w_36) w_35) w_35) (World.drew w_34)
   ) ∧ (rd Tryz.prog (Instr.loadAt 138 t4) (fun t45_1 => 
   (act Tryz.prog (Builtin.append_ #[131, 131] 131 #[(.slice none 0 0), t43]) (fun t44_1 w_39 => 
   act Tryz.prog (Instr.buildSlice 131 1 #[(0, t45_1)]) (fun t46_1 w_40 => 
   act Tryz.prog (Builtin.append_ #[131, 131] 131 #[t44_1, t46_1]) (fun t47_1 w_41 => 
   act Tryz.prog (Builtin.append_ #[131, 131] 131 #[t47_1, t51]) (fun t52_1 w_42 => 
   J_1 t52_1 w_42) w_41) w_40) w_39) (World.drew w_34)
   ) ∧ (act Tryz.prog (Instr.buildSlice 131 1 #[(0, t45_1)]) (fun t46_2 w_43 => 
   act Tryz.prog (Builtin.append_ #[131, 131] 131 #[(.slice none 0 0), t43]) (fun t44_2 w_44 => 
   act Tryz.prog (Builtin.append_ #[131, 131] 131 #[t44_2, t46_2]) (fun t47_2 w_45 => 
   act Tryz.prog (Builtin.append_ #[131, 131] 131 #[t47_2, t51]) (fun t52_2 w_46 => 
   J_1 t52_2 w_46) w_45) w_44) w_43) (World.drew w_34))) (World.drew w_34)))
  (fun t6 w_47 => ∀ _j : Fr, 
   Q t6 w_47)))
  (jn 1 (fun J_2 => 
  pur Tryz.prog (Instr.sliceAt 131 v_l none (some v_k) none) fun t55 => 
  pur Tryz.prog (Instr.sliceAt 131 v_l (some v_k) none none) fun t62 => 
  (act Tryz.prog (Builtin.append_ #[131, 131] 131 #[(.slice none 0 0), t55]) (fun t56 w_48 => 
  rd Tryz.prog (Instr.loadAt 138 t4) (fun t57 => 
  act Tryz.prog (Instr.buildSlice 131 1 #[(0, t57)]) (fun t58 w_49 => 
  act Tryz.prog (Builtin.append_ #[131, 131] 131 #[t56, t58]) (fun t59 w_50 => 
  act Tryz.prog (Builtin.append_ #[131, 131] 131 #[t59, t62]) (fun t63 w_51 => 
  J_2 t63 w_51) w_50) w_49) w_48) w_48) (World.drew w_34)
  ) ∧ (rd Tryz.prog (Instr.loadAt 138 t4) (fun t57_1 => 
  (act Tryz.prog (Builtin.append_ #[131, 131] 131 #[(.slice none 0 0), t55]) (fun t56_1 w_52 => 
  act Tryz.prog (Instr.buildSlice 131 1 #[(0, t57_1)]) (fun t58_1 w_53 => 
  act Tryz.prog (Builtin.append_ #[131, 131] 131 #[t56_1, t58_1]) (fun t59_1 w_54 => 
  act Tryz.prog (Builtin.append_ #[131, 131] 131 #[t59_1, t62]) (fun t63_1 w_55 => 
  J_2 t63_1 w_55) w_54) w_53) w_52) (World.drew w_34)
  ) ∧ (act Tryz.prog (Instr.buildSlice 131 1 #[(0, t57_1)]) (fun t58_2 w_56 => 
  act Tryz.prog (Builtin.append_ #[131, 131] 131 #[(.slice none 0 0), t55]) (fun t56_2 w_57 => 
  act Tryz.prog (Builtin.append_ #[131, 131] 131 #[t56_2, t58_2]) (fun t59_2 w_58 => 
  act Tryz.prog (Builtin.append_ #[131, 131] 131 #[t59_2, t62]) (fun t63_2 w_59 => 
  J_2 t63_2 w_59) w_58) w_57) w_56) (World.drew w_34))) (World.drew w_34)))
 (fun t6_1 w_60 => ∀ _j : Fr, 
  Q t6_1 w_60))) w_32) w_30) w_28) w_26) w_24) w_22) w_20) (World.drew w_18))) w_16) w_14) w_12) w_10) w_8) w_6) w_4) (World.drew w_2)) [(.int .i64 0)] w_1) w
theorem eq82 (v_l v_x v_last : Value) (Q : Value → World → Prop) (w : World) : semF Tryz.prog 82 [v_l, v_x, v_last] Q w = S82 v_l v_x v_last Q w := by kernel_rfl
theorem ref82 {v_l v_x v_last : Value} {Q : Value → World → Prop} {w : World} (h : S82 v_l v_x v_last Q w) : callS Tryz.prog 82 #[v_l, v_x, v_last] Q w :=
  callS_of mix (fun a w => Tryz.call82 a w) (by kernel_rfl) (by rw [eq82]; exact h)
-- (*commons/tx.Tx).Mark
def S83 (v_t v_at v_data : Value) (Q : Value → World → Prop) (w : World) : Prop :=
 callS Tryz.prog 188 #[v_t] (fun t9 w_1 => 
 condS t9
  (Q (.tuple #[]) w_1)
  (pur Tryz.prog (nilV v_t) fun t12 => 
 pur Tryz.prog (Instr.fieldAt 210 t12 3) fun t13 => 
 rd Tryz.prog (Instr.loadAt 208 t13) (fun t14 => 
 rd Tryz.prog (Instr.lookup 208 t14 v_at true) (fun t16 => 
 pur Tryz.prog (Instr.extract t16 0) fun _ => 
 pur Tryz.prog (Instr.extract t16 1) fun t18 => 
 pur Tryz.prog (Op.unary .not t18) fun t20 => 
 condS t20
  (jn 0 (fun J => 
   pur Tryz.prog (nilV v_t) fun t22 => 
   pur Tryz.prog (Instr.fieldAt 210 t22 3) fun t23 => 
   (rd Tryz.prog (Instr.loadAt 208 t23) (fun t24 => 
   callS Tryz.prog 189 #[v_data] (fun t27 w_2 => 
   act Tryz.prog (thenU (Instr.mapUpdate 208 t24 v_at t27)) (fun _ w_3 => 
   J  w_3) w_2) (World.drew w_1)) (World.drew w_1)
   ) ∧ (callS Tryz.prog 189 #[v_data] (fun t27_1 w_4 => 
   rd Tryz.prog (Instr.loadAt 208 t23) (fun t24_1 => 
   act Tryz.prog (thenU (Instr.mapUpdate 208 t24_1 v_at t27_1)) (fun _ w_5 => 
   J  w_5) w_4) w_4) (World.drew w_1)))
  (fun  w_6 => ∀ _j : Fr, 
   Q (.tuple #[]) w_6))
  (Q (.tuple #[]) w_1)) w_1) w_1)) w
theorem eq83 (v_t v_at v_data : Value) (Q : Value → World → Prop) (w : World) : semF Tryz.prog 83 [v_t, v_at, v_data] Q w = S83 v_t v_at v_data Q w := by kernel_rfl
theorem ref83 {v_t v_at v_data : Value} {Q : Value → World → Prop} {w : World} (h : S83 v_t v_at v_data Q w) : callS Tryz.prog 83 #[v_t, v_at, v_data] Q w :=
  callS_of mix (fun a w => Tryz.call83 a w) (by kernel_rfl) (by rw [eq83]; exact h)
-- (*commons/tx.Tx).Needs
def S84 (v_t v_at : Value) (Q : Value → World → Prop) (w : World) : Prop :=
 act Tryz.prog (Instr.alloc 143 true (.tuple #[])) (fun t4 w_1 => 
 callS Tryz.prog 188 #[v_t] (fun t9 w_2 => 
 condS t9
  (pur Tryz.prog (Instr.build 143 #[]) fun t10 => 
  act Tryz.prog (thenU (Instr.storeAt 143 t4 t10)) (fun _ w_3 => 
  rd Tryz.prog (resL 143 t4) (fun r => Q (.tuple #[r, (.bool false)]) w_3) w_3) w_2)
  (pur Tryz.prog (nilV v_t) fun t13 => 
 pur Tryz.prog (Instr.fieldAt 210 t13 1) fun t14 => 
 rd Tryz.prog (Instr.loadAt 89 t14) (fun t15 => 
 callS Tryz.prog 57 #[t15, v_at] (fun t17 w_4 => 
 pur Tryz.prog (Instr.extract t17 0) fun t18 => 
 pur Tryz.prog (Instr.extract t17 1) fun _ => 
 pur Tryz.prog (binS .neq 3 false true t18 (.int .i64 1)) fun t21 => 
 condS t21
  (pur Tryz.prog (Instr.build 143 #[]) fun t22 => 
  act Tryz.prog (thenU (Instr.storeAt 143 t4 t22)) (fun _ w_5 => 
  rd Tryz.prog (resL 143 t4) (fun r_1 => Q (.tuple #[r_1, (.bool false)]) w_5) w_5) w_4)
  (pur Tryz.prog (binS .add 3 false true v_at (.int .i64 1)) fun t25 => 
 pur Tryz.prog (Instr.build 72 #[(0, v_at), (1, t25)]) fun t26 => 
 pur Tryz.prog (Instr.build 143 #[(0, t26), (1, (.int .i64 2))]) fun t27 => 
 act Tryz.prog (thenU (Instr.storeAt 143 t4 t27)) (fun _ w_6 => 
 rd Tryz.prog (resL 143 t4) (fun r_2 => Q (.tuple #[r_2, (.bool true)]) w_6) w_6) w_4)) w_2) w_2)) w_1) w
theorem eq84 (v_t v_at : Value) (Q : Value → World → Prop) (w : World) : semF Tryz.prog 84 [v_t, v_at] Q w = S84 v_t v_at Q w := by kernel_rfl
theorem ref84 {v_t v_at : Value} {Q : Value → World → Prop} {w : World} (h : S84 v_t v_at Q w) : callS Tryz.prog 84 #[v_t, v_at] Q w :=
  callS_of mix (fun a w => Tryz.call84 a w) (by kernel_rfl) (by rw [eq84]; exact h)
-- (*commons/tx.Tx).Grow
def S85 (v_t v_at : Value) (Q : Value → World → Prop) (w : World) : Prop :=
 callS Tryz.prog 84 #[v_t, v_at] (fun t10 w_1 => 
 pur Tryz.prog (Instr.extract t10 0) fun t11 => 
 pur Tryz.prog (Instr.extract t10 1) fun t12 => 
 act Tryz.prog (Instr.alloc 143 true (.tuple #[])) (fun t5 w_2 => 
 act Tryz.prog (thenU (Instr.storeAt 143 t5 t11)) (fun _ w_3 => 
 gd t12 true (fun k w_4 => k v_t w_4) (fun t15_1 w_5 => 
 gd t12 true (fun k_1 w_6 => pur Tryz.prog (nilV t15_1) fun t16 => k_1 t16 w_6) (fun t16_1 w_7 => 
 gd t12 true (fun k_2 w_8 => pur Tryz.prog (Instr.fieldAt 210 t16_1 1) fun t17 => k_2 t17 w_8) (fun t17_1 w_9 => 
 gd t12 true (fun k_3 w_10 => rd Tryz.prog (Instr.loadAt 89 t17_1) (fun t18 => k_3 t18 w_10) w_10) (fun t18_1 w_11 => 
 gd t12 true (fun k_4 w_12 => pur Tryz.prog (Instr.fieldAt 143 t5 0) fun t19 => k_4 t19 w_12) (fun t19_1 w_13 => 
 gd t12 true (fun k_5 w_14 => rd Tryz.prog (Instr.loadAt 72 t19_1) (fun t20 => k_5 t20 w_14) w_14) (fun t20_1 w_15 => 
 gd t12 true (fun k_6 w_16 => pur Tryz.prog (Instr.fieldAt 143 t5 1) fun t21 => k_6 t21 w_16) (fun t21_1 w_17 => 
 gd t12 true (fun k_7 w_18 => rd Tryz.prog (Instr.loadAt 3 t21_1) (fun t22 => k_7 t22 w_18) w_18) (fun t22_1 w_19 => 
 gd t12 true (fun k_8 w_20 => callS Tryz.prog 47 #[t18_1, t20_1, t22_1] (fun t23 w_21 => k_8 t23 w_21) w_20) (fun t23_1 w_22 => 
 pur Tryz.prog (pickS t12 t23_1 (.bool false)) fun t24 => 
 Q t24 w_22) w_19) w_17) w_15) w_13) w_11) w_9) w_7) w_5) (World.drew w_3)) w_2) w_1) w
theorem eq85 (v_t v_at : Value) (Q : Value → World → Prop) (w : World) : semF Tryz.prog 85 [v_t, v_at] Q w = S85 v_t v_at Q w := by kernel_rfl
theorem ref85 {v_t v_at : Value} {Q : Value → World → Prop} {w : World} (h : S85 v_t v_at Q w) : callS Tryz.prog 85 #[v_t, v_at] Q w :=
  callS_of mix (fun a w => Tryz.call85 a w) (by kernel_rfl) (by rw [eq85]; exact h)
-- commons/commonsref14.Raise
def S86 (v_m v_l : Value) (Q : Value → World → Prop) (w : World) : Prop :=
 act Tryz.prog (Instr.box 143 v_l) (fun t3 w_1 => 
 callS Tryz.prog 70 #[v_m] (fun t7 w_2 => 
 rd Tryz.prog (Instr.loadAt 143 t3) (fun t9 => 
 act Tryz.prog (Instr.buildSlice 109 1 #[(0, t9)]) (fun t10 w_3 => 
 act Tryz.prog (Builtin.append_ #[109, 109] 109 #[t7, t10]) (fun t11 w_4 => 
 callS Tryz.prog 71 #[t11] (fun t12 w_5 => 
 Q t12 w_5) w_4) w_3) w_2) w_2) w_1) w
theorem eq86 (v_m v_l : Value) (Q : Value → World → Prop) (w : World) : semF Tryz.prog 86 [v_m, v_l] Q w = S86 v_m v_l Q w := by kernel_rfl
theorem ref86 {v_m v_l : Value} {Q : Value → World → Prop} {w : World} (h : S86 v_m v_l Q w) : callS Tryz.prog 86 #[v_m, v_l] Q w :=
  callS_of mix (fun a w => Tryz.call86 a w) (by kernel_rfl) (by rw [eq86]; exact h)
-- (*commons/tx.Tx).Locks
def S87 (v_t : Value) (Q : Value → World → Prop) (w : World) : Prop :=
 callS Tryz.prog 188 #[v_t] (fun t7 w_1 => 
 condS t7
  (Q (.slice none 0 0) w_1)
  (pur Tryz.prog (nilV v_t) fun t9 => 
 pur Tryz.prog (Instr.fieldAt 210 t9 1) fun t10 => 
 rd Tryz.prog (Instr.loadAt 89 t10) (fun t11 => 
 callS Tryz.prog 53 #[t11] (fun t12 w_2 => 
 pur Tryz.prog (Builtin.len_ #[93] 3 #[t12]) fun t13 => 
 lp 2 (fun J => fun v_out t14 w_3 => ∀ _j : Fr, 
  pur Tryz.prog (binS .lss 3 false false t14 t13) fun t15 => 
  condS t15
   (pur Tryz.prog (Instr.indexAt 93 t12 t14) fun t16 => 
  rd Tryz.prog (Instr.loadAt 201 t16) (fun t17 => 
  act Tryz.prog (Instr.alloc 201 true (.tuple #[])) (fun t5 w_4 => 
  act Tryz.prog (thenU (Instr.storeAt 201 t5 t17)) (fun _ w_5 => 
  pur Tryz.prog (Instr.fieldAt 201 t5 0) fun t19 => 
  rd Tryz.prog (Instr.loadAt 72 t19) (fun t20 => 
  pur Tryz.prog (Instr.fieldAt 201 t5 1) fun t21 => 
  rd Tryz.prog (Instr.loadAt 3 t21) (fun t22 => 
  pur Tryz.prog (Instr.build 143 #[(0, t20), (1, t22)]) fun t23 => 
  act Tryz.prog (Instr.buildSlice 109 1 #[(0, t23)]) (fun t24 w_6 => 
  act Tryz.prog (Builtin.append_ #[109, 109] 109 #[v_out, t24]) (fun t25 w_7 => 
  pur Tryz.prog (binS .add 3 false true t14 (.int .i64 1)) fun t26 => 
  J t25 t26 w_7) w_6) w_5) w_5) w_5) w_4) w_3) w_3)
   (Q v_out w_3)) [(.slice none 0 0), (.int .i64 0)] w_2) w_1) w_1)) w
theorem eq87 (v_t : Value) (Q : Value → World → Prop) (w : World) : semF Tryz.prog 87 [v_t] Q w = S87 v_t Q w := by kernel_rfl
theorem ref87 {v_t : Value} {Q : Value → World → Prop} {w : World} (h : S87 v_t Q w) : callS Tryz.prog 87 #[v_t] Q w :=
  callS_of mix (fun a w => Tryz.call87 a w) (by kernel_rfl) (by rw [eq87]; exact h)
-- (*commons/tx.Tx).Writes
def S88 (v_t : Value) (Q : Value → World → Prop) (w : World) : Prop :=
 callS Tryz.prog 188 #[v_t] (fun t4 w_1 => 
 condS t4
  (Q (.slice none 0 0) w_1)
  (pur Tryz.prog (nilV v_t) fun t6 => 
 pur Tryz.prog (Instr.fieldAt 210 t6 2) fun t7 => 
 rd Tryz.prog (Instr.loadAt 208 t7) (fun t8 => 
 callS Tryz.prog 190 #[t8] (fun t9 w_2 => 
 Q t9 w_2) w_1) w_1)) w
theorem eq88 (v_t : Value) (Q : Value → World → Prop) (w : World) : semF Tryz.prog 88 [v_t] Q w = S88 v_t Q w := by kernel_rfl
theorem ref88 {v_t : Value} {Q : Value → World → Prop} {w : World} (h : S88 v_t Q w) : callS Tryz.prog 88 #[v_t] Q w :=
  callS_of mix (fun a w => Tryz.call88 a w) (by kernel_rfl) (by rw [eq88]; exact h)
-- (*commons/tx.Tx).Reads
def S89 (v_t : Value) (Q : Value → World → Prop) (w : World) : Prop :=
 callS Tryz.prog 188 #[v_t] (fun t4 w_1 => 
 condS t4
  (Q (.slice none 0 0) w_1)
  (pur Tryz.prog (nilV v_t) fun t6 => 
 pur Tryz.prog (Instr.fieldAt 210 t6 3) fun t7 => 
 rd Tryz.prog (Instr.loadAt 208 t7) (fun t8 => 
 callS Tryz.prog 190 #[t8] (fun t9 w_2 => 
 Q t9 w_2) w_1) w_1)) w
theorem eq89 (v_t : Value) (Q : Value → World → Prop) (w : World) : semF Tryz.prog 89 [v_t] Q w = S89 v_t Q w := by kernel_rfl
theorem ref89 {v_t : Value} {Q : Value → World → Prop} {w : World} (h : S89 v_t Q w) : callS Tryz.prog 89 #[v_t] Q w :=
  callS_of mix (fun a w => Tryz.call89 a w) (by kernel_rfl) (by rw [eq89]; exact h)
-- (*commons/commonsbook.Book).Images
def S90 (v_b v_l : Value) (Q : Value → World → Prop) (w : World) : Prop :=
 pur Tryz.prog (nilV v_b) fun t5 => 
 pur Tryz.prog (Instr.fieldAt 51 t5 10) fun t6 => 
 rd Tryz.prog (Instr.loadAt 40 t6) (fun t7 => 
 pur Tryz.prog (Builtin.len_ #[40] 3 #[t7]) fun t8 => 
 pur Tryz.prog (binS .lss 3 false true t8 (.int .i64 250)) fun t9 => 
 condS t9
  (pur Tryz.prog (nilV v_b) fun t12 => 
  pur Tryz.prog (Instr.fieldAt 51 t12 10) fun t13 => 
  rd Tryz.prog (Instr.loadAt 40 t13) (fun t14 => 
  act Tryz.prog (Instr.buildSlice 40 1 #[(0, v_l)]) (fun t16 w_1 => 
  act Tryz.prog (Builtin.append_ #[40, 40] 40 #[t14, t16]) (fun t17 w_2 => 
  pur Tryz.prog (nilV v_b) fun t18 => 
  pur Tryz.prog (Instr.fieldAt 51 t18 10) fun t19 => 
  act Tryz.prog (thenU (Instr.storeAt 40 t19 t17)) (fun _ w_3 => 
  jn 0 (fun J => 
   pur Tryz.prog (nilV v_b) fun t22 => 
   pur Tryz.prog (Instr.fieldAt 51 t22 11) fun t23 => 
   (rd Tryz.prog (Instr.loadAt 40 t23) (fun t24 => 
   callS Tryz.prog 191 #[v_l] (fun t26 w_4 => 
   act Tryz.prog (Instr.buildSlice 40 1 #[(0, t26)]) (fun t27 w_5 => 
   act Tryz.prog (Builtin.append_ #[40, 40] 40 #[t24, t27]) (fun t28 w_6 => 
   pur Tryz.prog (nilV v_b) fun t29 => 
   pur Tryz.prog (Instr.fieldAt 51 t29 11) fun t30 => 
   act Tryz.prog (thenU (Instr.storeAt 40 t30 t28)) (fun _ w_7 => 
   J  w_7) w_6) w_5) w_4) (World.drew w_3)) (World.drew w_3)
   ) ∧ (callS Tryz.prog 191 #[v_l] (fun t26_1 w_8 => 
   (rd Tryz.prog (Instr.loadAt 40 t23) (fun t24_1 => 
   act Tryz.prog (Instr.buildSlice 40 1 #[(0, t26_1)]) (fun t27_1 w_9 => 
   act Tryz.prog (Builtin.append_ #[40, 40] 40 #[t24_1, t27_1]) (fun t28_1 w_10 => 
   pur Tryz.prog (nilV v_b) fun t29_1 => 
   pur Tryz.prog (Instr.fieldAt 51 t29_1 11) fun t30_1 => 
   act Tryz.prog (thenU (Instr.storeAt 40 t30_1 t28_1)) (fun _ w_11 => 
   J  w_11) w_10) w_9) w_8) w_8
   ) ∧ (act Tryz.prog (Instr.buildSlice 40 1 #[(0, t26_1)]) (fun t27_2 w_12 => 
   rd Tryz.prog (Instr.loadAt 40 t23) (fun t24_2 => 
   act Tryz.prog (Builtin.append_ #[40, 40] 40 #[t24_2, t27_2]) (fun t28_2 w_13 => 
   pur Tryz.prog (nilV v_b) fun t29_2 => 
   pur Tryz.prog (Instr.fieldAt 51 t29_2 11) fun t30_2 => 
   act Tryz.prog (thenU (Instr.storeAt 40 t30_2 t28_2)) (fun _ w_14 => 
   J  w_14) w_13) w_12) w_12) w_8)) (World.drew w_3)))
  (fun  w_15 => ∀ _j : Fr, 
   Q (.tuple #[]) w_15)) w_2) w_1) w) w)
  (Q (.tuple #[]) w)) w
theorem eq90 (v_b v_l : Value) (Q : Value → World → Prop) (w : World) : semF Tryz.prog 90 [v_b, v_l] Q w = S90 v_b v_l Q w := by kernel_rfl
theorem ref90 {v_b v_l : Value} {Q : Value → World → Prop} {w : World} (h : S90 v_b v_l Q w) : callS Tryz.prog 90 #[v_b, v_l] Q w :=
  callS_of mix (fun a w => Tryz.call90 a w) (by kernel_rfl) (by rw [eq90]; exact h)
-- (*commons/tx.Tx).Wrote
def S91 (v_t v_at : Value) (Q : Value → World → Prop) (w : World) : Prop :=
 callS Tryz.prog 188 #[v_t] (fun t9 w_1 => 
 condS t9
  (Q (.tuple #[(.string ⟨#[]⟩), (.bool false)]) w_1)
  (pur Tryz.prog (nilV v_t) fun t12 => 
 pur Tryz.prog (Instr.fieldAt 210 t12 2) fun t13 => 
 rd Tryz.prog (Instr.loadAt 208 t13) (fun t14 => 
 rd Tryz.prog (Instr.lookup 208 t14 v_at true) (fun t16 => 
 pur Tryz.prog (Instr.extract t16 0) fun t17 => 
 pur Tryz.prog (Instr.extract t16 1) fun t18 => 
 Q (.tuple #[t17, t18]) w_1) w_1) w_1)) w
theorem eq91 (v_t v_at : Value) (Q : Value → World → Prop) (w : World) : semF Tryz.prog 91 [v_t, v_at] Q w = S91 v_t v_at Q w := by kernel_rfl
theorem ref91 {v_t v_at : Value} {Q : Value → World → Prop} {w : World} (h : S91 v_t v_at Q w) : callS Tryz.prog 91 #[v_t, v_at] Q w :=
  callS_of mix (fun a w => Tryz.call91 a w) (by kernel_rfl) (by rw [eq91]; exact h)
-- (*commons/tx.Tx).MayRead
def S92 (v_t v_at : Value) (Q : Value → World → Prop) (w : World) : Prop :=
 callS Tryz.prog 188 #[v_t] (fun t8 w_1 => 
 condS t8
  (Q (.int .i64 32) w_1)
  (pur Tryz.prog (nilV v_t) fun t11 => 
 pur Tryz.prog (Instr.fieldAt 210 t11 1) fun t12 => 
 rd Tryz.prog (Instr.loadAt 89 t12) (fun t13 => 
 callS Tryz.prog 57 #[t13, v_at] (fun t15 w_2 => 
 pur Tryz.prog (Instr.extract t15 0) fun _ => 
 pur Tryz.prog (Instr.extract t15 1) fun t17 => 
 pur Tryz.prog (Op.unary .not t17) fun t19 => 
 condS t19
  (Q (.int .i64 30) w_2)
  (Q (.int .i64 0) w_2)) w_1) w_1)) w
theorem eq92 (v_t v_at : Value) (Q : Value → World → Prop) (w : World) : semF Tryz.prog 92 [v_t, v_at] Q w = S92 v_t v_at Q w := by kernel_rfl
theorem ref92 {v_t v_at : Value} {Q : Value → World → Prop} {w : World} (h : S92 v_t v_at Q w) : callS Tryz.prog 92 #[v_t, v_at] Q w :=
  callS_of mix (fun a w => Tryz.call92 a w) (by kernel_rfl) (by rw [eq92]; exact h)
-- commons/commonsbook.SameImages
def S93 (v_a v_b : Value) (Q : Value → World → Prop) (w : World) : Prop :=
 pur Tryz.prog (Builtin.len_ #[131] 3 #[v_a]) fun t7 => 
 pur Tryz.prog (Builtin.len_ #[131] 3 #[v_b]) fun t9 => 
 pur Tryz.prog (binS .neq 3 false false t7 t9) fun t10 => 
 condS t10
  (Q (.bool false) w)
  (lp 1 (fun J => fun v_i w_1 => ∀ _j : Fr, 
  pur Tryz.prog (Builtin.len_ #[131] 3 #[v_a]) fun t13 => 
  pur Tryz.prog (binS .lss 3 false false v_i t13) fun t14 => 
  condS t14
   (pur Tryz.prog (Instr.indexAt 131 v_a v_i) fun t19 => 
  rd Tryz.prog (Instr.loadAt 138 t19) (fun t20 => 
  pur Tryz.prog (Instr.indexAt 131 v_b v_i) fun t23 => 
  rd Tryz.prog (Instr.loadAt 138 t23) (fun t24 => 
  rd Tryz.prog (binS .eql 138 false false t20 t24) (fun t25 => 
  pur Tryz.prog (Op.unary .not t25) fun t26 => 
  condS t26
   (Q (.bool false) (World.drew w_1))
   (pur Tryz.prog (binS .add 3 false true v_i (.int .i64 1)) fun t16 => 
  J t16 (World.drew w_1))) (World.drew w_1)) (World.drew w_1)) (World.drew w_1))
   (Q (.bool true) w_1)) [(.int .i64 0)] w)
theorem eq93 (v_a v_b : Value) (Q : Value → World → Prop) (w : World) : semF Tryz.prog 93 [v_a, v_b] Q w = S93 v_a v_b Q w := by kernel_rfl
theorem ref93 {v_a v_b : Value} {Q : Value → World → Prop} {w : World} (h : S93 v_a v_b Q w) : callS Tryz.prog 93 #[v_a, v_b] Q w :=
  callS_of mix (fun a w => Tryz.call93 a w) (by kernel_rfl) (by rw [eq93]; exact h)
-- (*commons/tx.Tx).Blocks
def S94 (v_t : Value) (Q : Value → World → Prop) (w : World) : Prop :=
 callS Tryz.prog 188 #[v_t] (fun t4 w_1 => 
 condS t4
  (Q (.int .i64 0) w_1)
  (pur Tryz.prog (nilV v_t) fun t6 => 
 pur Tryz.prog (Instr.fieldAt 210 t6 2) fun t7 => 
 rd Tryz.prog (Instr.loadAt 208 t7) (fun t8 => 
 rd Tryz.prog (Builtin.len_ #[208] 3 #[t8]) (fun t9 => 
 Q t9 w_1) w_1) w_1)) w
theorem eq94 (v_t : Value) (Q : Value → World → Prop) (w : World) : semF Tryz.prog 94 [v_t] Q w = S94 v_t Q w := by kernel_rfl
theorem ref94 {v_t : Value} {Q : Value → World → Prop} {w : World} (h : S94 v_t Q w) : callS Tryz.prog 94 #[v_t] Q w :=
  callS_of mix (fun a w => Tryz.call94 a w) (by kernel_rfl) (by rw [eq94]; exact h)
-- (*commons/commonsbook.Book).stillTexts
def S102 (v_b : Value) (Q : Value → World → Prop) (w : World) : Prop :=
 lp 1 (fun J => fun v_i w_1 => ∀ _j : Fr, 
  pur Tryz.prog (nilV v_b) fun t6 => 
  pur Tryz.prog (Instr.fieldAt 51 t6 0) fun t7 => 
  rd Tryz.prog (Instr.loadAt 35 t7) (fun t8 => 
  pur Tryz.prog (Builtin.len_ #[35] 3 #[t8]) fun t9 => 
  pur Tryz.prog (binS .lss 3 false false v_i t9) fun t10 => 
  condS t10
   (pur Tryz.prog (nilV v_b) fun t14 => 
  pur Tryz.prog (Instr.fieldAt 51 t14 0) fun t15 => 
  rd Tryz.prog (Instr.loadAt 35 t15) (fun t16 => 
  pur Tryz.prog (Instr.indexAt 35 t16 v_i) fun t18 => 
  rd Tryz.prog (Instr.loadAt 220 t18) (fun t19 => 
  pur Tryz.prog (nilV v_b) fun t21 => 
  pur Tryz.prog (Instr.fieldAt 51 t21 1) fun t22 => 
  rd Tryz.prog (Instr.loadAt 35 t22) (fun t23 => 
  pur Tryz.prog (Instr.indexAt 35 t23 v_i) fun t25 => 
  rd Tryz.prog (Instr.loadAt 220 t25) (fun t26 => 
  callS Tryz.prog 195 #[t19, t26] (fun t27 w_2 => 
  pur Tryz.prog (Op.unary .not t27) fun t28 => 
  condS t28
   (Q (.bool false) w_2)
   (pur Tryz.prog (binS .add 3 false true v_i (.int .i64 1)) fun t12 => 
  J t12 w_2)) (World.drew w_1)) (World.drew w_1)) (World.drew w_1)) (World.drew w_1)) (World.drew w_1))
   (Q (.bool true) w_1)) w_1) [(.int .i64 0)] w
theorem eq102 (v_b : Value) (Q : Value → World → Prop) (w : World) : semF Tryz.prog 102 [v_b] Q w = S102 v_b Q w := by kernel_rfl
theorem ref102 {v_b : Value} {Q : Value → World → Prop} {w : World} (h : S102 v_b Q w) : callS Tryz.prog 102 #[v_b] Q w :=
  callS_of mix (fun a w => Tryz.call102 a w) (by kernel_rfl) (by rw [eq102]; exact h)
-- (*commons/commonsbook.Book).stillInts
def S103 (v_b : Value) (Q : Value → World → Prop) (w : World) : Prop :=
 lp 1 (fun J => fun v_i w_1 => ∀ _j : Fr, 
  pur Tryz.prog (nilV v_b) fun t6 => 
  pur Tryz.prog (Instr.fieldAt 51 t6 2) fun t7 => 
  rd Tryz.prog (Instr.loadAt 36 t7) (fun t8 => 
  pur Tryz.prog (Builtin.len_ #[36] 3 #[t8]) fun t9 => 
  pur Tryz.prog (binS .lss 3 false false v_i t9) fun t10 => 
  condS t10
   (pur Tryz.prog (nilV v_b) fun t14 => 
  pur Tryz.prog (Instr.fieldAt 51 t14 2) fun t15 => 
  rd Tryz.prog (Instr.loadAt 36 t15) (fun t16 => 
  pur Tryz.prog (Instr.indexAt 36 t16 v_i) fun t18 => 
  rd Tryz.prog (Instr.loadAt 64 t18) (fun t19 => 
  pur Tryz.prog (nilV v_b) fun t21 => 
  pur Tryz.prog (Instr.fieldAt 51 t21 3) fun t22 => 
  rd Tryz.prog (Instr.loadAt 36 t22) (fun t23 => 
  pur Tryz.prog (Instr.indexAt 36 t23 v_i) fun t25 => 
  rd Tryz.prog (Instr.loadAt 64 t25) (fun t26 => 
  callS Tryz.prog 20 #[t19, t26] (fun t27 w_2 => 
  pur Tryz.prog (Op.unary .not t27) fun t28 => 
  condS t28
   (Q (.bool false) w_2)
   (pur Tryz.prog (binS .add 3 false true v_i (.int .i64 1)) fun t12 => 
  J t12 w_2)) (World.drew w_1)) (World.drew w_1)) (World.drew w_1)) (World.drew w_1)) (World.drew w_1))
   (Q (.bool true) w_1)) w_1) [(.int .i64 0)] w
theorem eq103 (v_b : Value) (Q : Value → World → Prop) (w : World) : semF Tryz.prog 103 [v_b] Q w = S103 v_b Q w := by kernel_rfl
theorem ref103 {v_b : Value} {Q : Value → World → Prop} {w : World} (h : S103 v_b Q w) : callS Tryz.prog 103 #[v_b] Q w :=
  callS_of mix (fun a w => Tryz.call103 a w) (by kernel_rfl) (by rw [eq103]; exact h)
-- (*commons/commonsbook.Book).stillNums
def S104 (v_b : Value) (Q : Value → World → Prop) (w : World) : Prop :=
 lp 1 (fun J => fun v_i w_1 => ∀ _j : Fr, 
  pur Tryz.prog (nilV v_b) fun t6 => 
  pur Tryz.prog (Instr.fieldAt 51 t6 4) fun t7 => 
  rd Tryz.prog (Instr.loadAt 37 t7) (fun t8 => 
  pur Tryz.prog (Builtin.len_ #[37] 3 #[t8]) fun t9 => 
  pur Tryz.prog (binS .lss 3 false false v_i t9) fun t10 => 
  condS t10
   (pur Tryz.prog (nilV v_b) fun t14 => 
  pur Tryz.prog (Instr.fieldAt 51 t14 4) fun t15 => 
  rd Tryz.prog (Instr.loadAt 37 t15) (fun t16 => 
  pur Tryz.prog (Instr.indexAt 37 t16 v_i) fun t18 => 
  rd Tryz.prog (Instr.loadAt 222 t18) (fun t19 => 
  pur Tryz.prog (nilV v_b) fun t21 => 
  pur Tryz.prog (Instr.fieldAt 51 t21 5) fun t22 => 
  rd Tryz.prog (Instr.loadAt 37 t22) (fun t23 => 
  pur Tryz.prog (Instr.indexAt 37 t23 v_i) fun t25 => 
  rd Tryz.prog (Instr.loadAt 222 t25) (fun t26 => 
  callS Tryz.prog 196 #[t19, t26] (fun t27 w_2 => 
  pur Tryz.prog (Op.unary .not t27) fun t28 => 
  condS t28
   (Q (.bool false) w_2)
   (pur Tryz.prog (binS .add 3 false true v_i (.int .i64 1)) fun t12 => 
  J t12 w_2)) (World.drew w_1)) (World.drew w_1)) (World.drew w_1)) (World.drew w_1)) (World.drew w_1))
   (Q (.bool true) w_1)) w_1) [(.int .i64 0)] w
theorem eq104 (v_b : Value) (Q : Value → World → Prop) (w : World) : semF Tryz.prog 104 [v_b] Q w = S104 v_b Q w := by kernel_rfl
theorem ref104 {v_b : Value} {Q : Value → World → Prop} {w : World} (h : S104 v_b Q w) : callS Tryz.prog 104 #[v_b] Q w :=
  callS_of mix (fun a w => Tryz.call104 a w) (by kernel_rfl) (by rw [eq104]; exact h)
-- (*commons/commonsbook.Book).stillSpans
def S105 (v_b : Value) (Q : Value → World → Prop) (w : World) : Prop :=
 lp 1 (fun J => fun v_i w_1 => ∀ _j : Fr, 
  pur Tryz.prog (nilV v_b) fun t6 => 
  pur Tryz.prog (Instr.fieldAt 51 t6 6) fun t7 => 
  rd Tryz.prog (Instr.loadAt 38 t7) (fun t8 => 
  pur Tryz.prog (Builtin.len_ #[38] 3 #[t8]) fun t9 => 
  pur Tryz.prog (binS .lss 3 false false v_i t9) fun t10 => 
  condS t10
   (pur Tryz.prog (nilV v_b) fun t14 => 
  pur Tryz.prog (Instr.fieldAt 51 t14 6) fun t15 => 
  rd Tryz.prog (Instr.loadAt 38 t15) (fun t16 => 
  pur Tryz.prog (Instr.indexAt 38 t16 v_i) fun t18 => 
  rd Tryz.prog (Instr.loadAt 70 t18) (fun t19 => 
  pur Tryz.prog (nilV v_b) fun t21 => 
  pur Tryz.prog (Instr.fieldAt 51 t21 7) fun t22 => 
  rd Tryz.prog (Instr.loadAt 38 t22) (fun t23 => 
  pur Tryz.prog (Instr.indexAt 38 t23 v_i) fun t25 => 
  rd Tryz.prog (Instr.loadAt 70 t25) (fun t26 => 
  callS Tryz.prog 38 #[t19, t26] (fun t27 w_2 => 
  pur Tryz.prog (Op.unary .not t27) fun t28 => 
  condS t28
   (Q (.bool false) w_2)
   (pur Tryz.prog (binS .add 3 false true v_i (.int .i64 1)) fun t12 => 
  J t12 w_2)) (World.drew w_1)) (World.drew w_1)) (World.drew w_1)) (World.drew w_1)) (World.drew w_1))
   (Q (.bool true) w_1)) w_1) [(.int .i64 0)] w
theorem eq105 (v_b : Value) (Q : Value → World → Prop) (w : World) : semF Tryz.prog 105 [v_b] Q w = S105 v_b Q w := by kernel_rfl
theorem ref105 {v_b : Value} {Q : Value → World → Prop} {w : World} (h : S105 v_b Q w) : callS Tryz.prog 105 #[v_b] Q w :=
  callS_of mix (fun a w => Tryz.call105 a w) (by kernel_rfl) (by rw [eq105]; exact h)
-- (*commons/commonsbook.Book).stillLocks
def S106 (v_b : Value) (Q : Value → World → Prop) (w : World) : Prop :=
 lp 1 (fun J => fun v_i w_1 => ∀ _j : Fr, 
  pur Tryz.prog (nilV v_b) fun t6 => 
  pur Tryz.prog (Instr.fieldAt 51 t6 8) fun t7 => 
  rd Tryz.prog (Instr.loadAt 39 t7) (fun t8 => 
  pur Tryz.prog (Builtin.len_ #[39] 3 #[t8]) fun t9 => 
  pur Tryz.prog (binS .lss 3 false false v_i t9) fun t10 => 
  condS t10
   (pur Tryz.prog (nilV v_b) fun t14 => 
  pur Tryz.prog (Instr.fieldAt 51 t14 8) fun t15 => 
  rd Tryz.prog (Instr.loadAt 39 t15) (fun t16 => 
  pur Tryz.prog (Instr.indexAt 39 t16 v_i) fun t18 => 
  rd Tryz.prog (Instr.loadAt 109 t18) (fun t19 => 
  pur Tryz.prog (nilV v_b) fun t21 => 
  pur Tryz.prog (Instr.fieldAt 51 t21 9) fun t22 => 
  rd Tryz.prog (Instr.loadAt 39 t22) (fun t23 => 
  pur Tryz.prog (Instr.indexAt 39 t23 v_i) fun t25 => 
  rd Tryz.prog (Instr.loadAt 109 t25) (fun t26 => 
  callS Tryz.prog 69 #[t19, t26] (fun t27 w_2 => 
  pur Tryz.prog (Op.unary .not t27) fun t28 => 
  condS t28
   (Q (.bool false) w_2)
   (pur Tryz.prog (binS .add 3 false true v_i (.int .i64 1)) fun t12 => 
  J t12 w_2)) (World.drew w_1)) (World.drew w_1)) (World.drew w_1)) (World.drew w_1)) (World.drew w_1))
   (Q (.bool true) w_1)) w_1) [(.int .i64 0)] w
theorem eq106 (v_b : Value) (Q : Value → World → Prop) (w : World) : semF Tryz.prog 106 [v_b] Q w = S106 v_b Q w := by kernel_rfl
theorem ref106 {v_b : Value} {Q : Value → World → Prop} {w : World} (h : S106 v_b Q w) : callS Tryz.prog 106 #[v_b] Q w :=
  callS_of mix (fun a w => Tryz.call106 a w) (by kernel_rfl) (by rw [eq106]; exact h)
-- (*commons/commonsbook.Book).stillImages
def S107 (v_b : Value) (Q : Value → World → Prop) (w : World) : Prop :=
 lp 1 (fun J => fun v_i w_1 => ∀ _j : Fr, 
  pur Tryz.prog (nilV v_b) fun t6 => 
  pur Tryz.prog (Instr.fieldAt 51 t6 10) fun t7 => 
  rd Tryz.prog (Instr.loadAt 40 t7) (fun t8 => 
  pur Tryz.prog (Builtin.len_ #[40] 3 #[t8]) fun t9 => 
  pur Tryz.prog (binS .lss 3 false false v_i t9) fun t10 => 
  condS t10
   (pur Tryz.prog (nilV v_b) fun t14 => 
  pur Tryz.prog (Instr.fieldAt 51 t14 10) fun t15 => 
  rd Tryz.prog (Instr.loadAt 40 t15) (fun t16 => 
  pur Tryz.prog (Instr.indexAt 40 t16 v_i) fun t18 => 
  rd Tryz.prog (Instr.loadAt 131 t18) (fun t19 => 
  pur Tryz.prog (nilV v_b) fun t21 => 
  pur Tryz.prog (Instr.fieldAt 51 t21 11) fun t22 => 
  rd Tryz.prog (Instr.loadAt 40 t22) (fun t23 => 
  pur Tryz.prog (Instr.indexAt 40 t23 v_i) fun t25 => 
  rd Tryz.prog (Instr.loadAt 131 t25) (fun t26 => 
  callS Tryz.prog 93 #[t19, t26] (fun t27 w_2 => 
  pur Tryz.prog (Op.unary .not t27) fun t28 => 
  condS t28
   (Q (.bool false) w_2)
   (pur Tryz.prog (binS .add 3 false true v_i (.int .i64 1)) fun t12 => 
  J t12 w_2)) (World.drew w_1)) (World.drew w_1)) (World.drew w_1)) (World.drew w_1)) (World.drew w_1))
   (Q (.bool true) w_1)) w_1) [(.int .i64 0)] w
theorem eq107 (v_b : Value) (Q : Value → World → Prop) (w : World) : semF Tryz.prog 107 [v_b] Q w = S107 v_b Q w := by kernel_rfl
theorem ref107 {v_b : Value} {Q : Value → World → Prop} {w : World} (h : S107 v_b Q w) : callS Tryz.prog 107 #[v_b] Q w :=
  callS_of mix (fun a w => Tryz.call107 a w) (by kernel_rfl) (by rw [eq107]; exact h)
-- (*commons/commonsbook.Book).stillRecords
def S108 (v_b : Value) (Q : Value → World → Prop) (w : World) : Prop :=
 lp 1 (fun J => fun v_i w_1 => ∀ _j : Fr, 
  pur Tryz.prog (nilV v_b) fun t6 => 
  pur Tryz.prog (Instr.fieldAt 51 t6 12) fun t7 => 
  rd Tryz.prog (Instr.loadAt 41 t7) (fun t8 => 
  pur Tryz.prog (Builtin.len_ #[41] 3 #[t8]) fun t9 => 
  pur Tryz.prog (binS .lss 3 false false v_i t9) fun t10 => 
  condS t10
   (pur Tryz.prog (nilV v_b) fun t14 => 
  pur Tryz.prog (Instr.fieldAt 51 t14 12) fun t15 => 
  rd Tryz.prog (Instr.loadAt 41 t15) (fun t16 => 
  pur Tryz.prog (Instr.indexAt 41 t16 v_i) fun t18 => 
  rd Tryz.prog (Instr.loadAt 224 t18) (fun t19 => 
  pur Tryz.prog (nilV v_b) fun t21 => 
  pur Tryz.prog (Instr.fieldAt 51 t21 13) fun t22 => 
  rd Tryz.prog (Instr.loadAt 41 t22) (fun t23 => 
  pur Tryz.prog (Instr.indexAt 41 t23 v_i) fun t25 => 
  rd Tryz.prog (Instr.loadAt 224 t25) (fun t26 => 
  callS Tryz.prog 197 #[t19, t26] (fun t27 w_2 => 
  pur Tryz.prog (Op.unary .not t27) fun t28 => 
  condS t28
   (Q (.bool false) w_2)
   (pur Tryz.prog (binS .add 3 false true v_i (.int .i64 1)) fun t12 => 
  J t12 w_2)) (World.drew w_1)) (World.drew w_1)) (World.drew w_1)) (World.drew w_1)) (World.drew w_1))
   (Q (.bool true) w_1)) w_1) [(.int .i64 0)] w
theorem eq108 (v_b : Value) (Q : Value → World → Prop) (w : World) : semF Tryz.prog 108 [v_b] Q w = S108 v_b Q w := by kernel_rfl
theorem ref108 {v_b : Value} {Q : Value → World → Prop} {w : World} (h : S108 v_b Q w) : callS Tryz.prog 108 #[v_b] Q w :=
  callS_of mix (fun a w => Tryz.call108 a w) (by kernel_rfl) (by rw [eq108]; exact h)
-- (*commons/commonsbook.Book).stillPackets
def S109 (v_b : Value) (Q : Value → World → Prop) (w : World) : Prop :=
 lp 1 (fun J => fun v_i w_1 => ∀ _j : Fr, 
  pur Tryz.prog (nilV v_b) fun t6 => 
  pur Tryz.prog (Instr.fieldAt 51 t6 14) fun t7 => 
  rd Tryz.prog (Instr.loadAt 42 t7) (fun t8 => 
  pur Tryz.prog (Builtin.len_ #[42] 3 #[t8]) fun t9 => 
  pur Tryz.prog (binS .lss 3 false false v_i t9) fun t10 => 
  condS t10
   (pur Tryz.prog (nilV v_b) fun t14 => 
  pur Tryz.prog (Instr.fieldAt 51 t14 14) fun t15 => 
  rd Tryz.prog (Instr.loadAt 42 t15) (fun t16 => 
  pur Tryz.prog (Instr.indexAt 42 t16 v_i) fun t18 => 
  rd Tryz.prog (Instr.loadAt 226 t18) (fun t19 => 
  pur Tryz.prog (nilV v_b) fun t21 => 
  pur Tryz.prog (Instr.fieldAt 51 t21 15) fun t22 => 
  rd Tryz.prog (Instr.loadAt 42 t22) (fun t23 => 
  pur Tryz.prog (Instr.indexAt 42 t23 v_i) fun t25 => 
  rd Tryz.prog (Instr.loadAt 226 t25) (fun t26 => 
  callS Tryz.prog 198 #[t19, t26] (fun t27 w_2 => 
  pur Tryz.prog (Op.unary .not t27) fun t28 => 
  condS t28
   (Q (.bool false) w_2)
   (pur Tryz.prog (binS .add 3 false true v_i (.int .i64 1)) fun t12 => 
  J t12 w_2)) (World.drew w_1)) (World.drew w_1)) (World.drew w_1)) (World.drew w_1)) (World.drew w_1))
   (Q (.bool true) w_1)) w_1) [(.int .i64 0)] w
theorem eq109 (v_b : Value) (Q : Value → World → Prop) (w : World) : semF Tryz.prog 109 [v_b] Q w = S109 v_b Q w := by kernel_rfl
theorem ref109 {v_b : Value} {Q : Value → World → Prop} {w : World} (h : S109 v_b Q w) : callS Tryz.prog 109 #[v_b] Q w :=
  callS_of mix (fun a w => Tryz.call109 a w) (by kernel_rfl) (by rw [eq109]; exact h)
-- (*commons/commonsbook.Book).stillFrames
def S110 (v_b : Value) (Q : Value → World → Prop) (w : World) : Prop :=
 lp 1 (fun J => fun v_i w_1 => ∀ _j : Fr, 
  pur Tryz.prog (nilV v_b) fun t6 => 
  pur Tryz.prog (Instr.fieldAt 51 t6 16) fun t7 => 
  rd Tryz.prog (Instr.loadAt 43 t7) (fun t8 => 
  pur Tryz.prog (Builtin.len_ #[43] 3 #[t8]) fun t9 => 
  pur Tryz.prog (binS .lss 3 false false v_i t9) fun t10 => 
  condS t10
   (pur Tryz.prog (nilV v_b) fun t14 => 
  pur Tryz.prog (Instr.fieldAt 51 t14 16) fun t15 => 
  rd Tryz.prog (Instr.loadAt 43 t15) (fun t16 => 
  pur Tryz.prog (Instr.indexAt 43 t16 v_i) fun t18 => 
  rd Tryz.prog (Instr.loadAt 228 t18) (fun t19 => 
  pur Tryz.prog (nilV v_b) fun t21 => 
  pur Tryz.prog (Instr.fieldAt 51 t21 17) fun t22 => 
  rd Tryz.prog (Instr.loadAt 43 t22) (fun t23 => 
  pur Tryz.prog (Instr.indexAt 43 t23 v_i) fun t25 => 
  rd Tryz.prog (Instr.loadAt 228 t25) (fun t26 => 
  callS Tryz.prog 199 #[t19, t26] (fun t27 w_2 => 
  pur Tryz.prog (Op.unary .not t27) fun t28 => 
  condS t28
   (Q (.bool false) w_2)
   (pur Tryz.prog (binS .add 3 false true v_i (.int .i64 1)) fun t12 => 
  J t12 w_2)) (World.drew w_1)) (World.drew w_1)) (World.drew w_1)) (World.drew w_1)) (World.drew w_1))
   (Q (.bool true) w_1)) w_1) [(.int .i64 0)] w
theorem eq110 (v_b : Value) (Q : Value → World → Prop) (w : World) : semF Tryz.prog 110 [v_b] Q w = S110 v_b Q w := by kernel_rfl
theorem ref110 {v_b : Value} {Q : Value → World → Prop} {w : World} (h : S110 v_b Q w) : callS Tryz.prog 110 #[v_b] Q w :=
  callS_of mix (fun a w => Tryz.call110 a w) (by kernel_rfl) (by rw [eq110]; exact h)
-- (*commons/commonsbook.Book).stillWaits
def S111 (v_b : Value) (Q : Value → World → Prop) (w : World) : Prop :=
 lp 1 (fun J => fun v_i w_1 => ∀ _j : Fr, 
  pur Tryz.prog (nilV v_b) fun t6 => 
  pur Tryz.prog (Instr.fieldAt 51 t6 18) fun t7 => 
  rd Tryz.prog (Instr.loadAt 44 t7) (fun t8 => 
  pur Tryz.prog (Builtin.len_ #[44] 3 #[t8]) fun t9 => 
  pur Tryz.prog (binS .lss 3 false false v_i t9) fun t10 => 
  condS t10
   (pur Tryz.prog (nilV v_b) fun t14 => 
  pur Tryz.prog (Instr.fieldAt 51 t14 18) fun t15 => 
  rd Tryz.prog (Instr.loadAt 44 t15) (fun t16 => 
  pur Tryz.prog (Instr.indexAt 44 t16 v_i) fun t18 => 
  rd Tryz.prog (Instr.loadAt 230 t18) (fun t19 => 
  pur Tryz.prog (nilV v_b) fun t21 => 
  pur Tryz.prog (Instr.fieldAt 51 t21 19) fun t22 => 
  rd Tryz.prog (Instr.loadAt 44 t22) (fun t23 => 
  pur Tryz.prog (Instr.indexAt 44 t23 v_i) fun t25 => 
  rd Tryz.prog (Instr.loadAt 230 t25) (fun t26 => 
  callS Tryz.prog 200 #[t19, t26] (fun t27 w_2 => 
  pur Tryz.prog (Op.unary .not t27) fun t28 => 
  condS t28
   (Q (.bool false) w_2)
   (pur Tryz.prog (binS .add 3 false true v_i (.int .i64 1)) fun t12 => 
  J t12 w_2)) (World.drew w_1)) (World.drew w_1)) (World.drew w_1)) (World.drew w_1)) (World.drew w_1))
   (Q (.bool true) w_1)) w_1) [(.int .i64 0)] w
theorem eq111 (v_b : Value) (Q : Value → World → Prop) (w : World) : semF Tryz.prog 111 [v_b] Q w = S111 v_b Q w := by kernel_rfl
theorem ref111 {v_b : Value} {Q : Value → World → Prop} {w : World} (h : S111 v_b Q w) : callS Tryz.prog 111 #[v_b] Q w :=
  callS_of mix (fun a w => Tryz.call111 a w) (by kernel_rfl) (by rw [eq111]; exact h)
-- (*commons/commonsbook.Book).stillRevokes
def S112 (v_b : Value) (Q : Value → World → Prop) (w : World) : Prop :=
 lp 1 (fun J => fun v_i w_1 => ∀ _j : Fr, 
  pur Tryz.prog (nilV v_b) fun t6 => 
  pur Tryz.prog (Instr.fieldAt 51 t6 20) fun t7 => 
  rd Tryz.prog (Instr.loadAt 45 t7) (fun t8 => 
  pur Tryz.prog (Builtin.len_ #[45] 3 #[t8]) fun t9 => 
  pur Tryz.prog (binS .lss 3 false false v_i t9) fun t10 => 
  condS t10
   (pur Tryz.prog (nilV v_b) fun t14 => 
  pur Tryz.prog (Instr.fieldAt 51 t14 20) fun t15 => 
  rd Tryz.prog (Instr.loadAt 45 t15) (fun t16 => 
  pur Tryz.prog (Instr.indexAt 45 t16 v_i) fun t18 => 
  rd Tryz.prog (Instr.loadAt 232 t18) (fun t19 => 
  pur Tryz.prog (nilV v_b) fun t21 => 
  pur Tryz.prog (Instr.fieldAt 51 t21 21) fun t22 => 
  rd Tryz.prog (Instr.loadAt 45 t22) (fun t23 => 
  pur Tryz.prog (Instr.indexAt 45 t23 v_i) fun t25 => 
  rd Tryz.prog (Instr.loadAt 232 t25) (fun t26 => 
  callS Tryz.prog 201 #[t19, t26] (fun t27 w_2 => 
  pur Tryz.prog (Op.unary .not t27) fun t28 => 
  condS t28
   (Q (.bool false) w_2)
   (pur Tryz.prog (binS .add 3 false true v_i (.int .i64 1)) fun t12 => 
  J t12 w_2)) (World.drew w_1)) (World.drew w_1)) (World.drew w_1)) (World.drew w_1)) (World.drew w_1))
   (Q (.bool true) w_1)) w_1) [(.int .i64 0)] w
theorem eq112 (v_b : Value) (Q : Value → World → Prop) (w : World) : semF Tryz.prog 112 [v_b] Q w = S112 v_b Q w := by kernel_rfl
theorem ref112 {v_b : Value} {Q : Value → World → Prop} {w : World} (h : S112 v_b Q w) : callS Tryz.prog 112 #[v_b] Q w :=
  callS_of mix (fun a w => Tryz.call112 a w) (by kernel_rfl) (by rw [eq112]; exact h)
-- (*commons/commonsbook.Book).stillEntries
def S113 (v_b : Value) (Q : Value → World → Prop) (w : World) : Prop :=
 lp 1 (fun J => fun v_i w_1 => ∀ _j : Fr, 
  pur Tryz.prog (nilV v_b) fun t6 => 
  pur Tryz.prog (Instr.fieldAt 51 t6 22) fun t7 => 
  rd Tryz.prog (Instr.loadAt 46 t7) (fun t8 => 
  pur Tryz.prog (Builtin.len_ #[46] 3 #[t8]) fun t9 => 
  pur Tryz.prog (binS .lss 3 false false v_i t9) fun t10 => 
  condS t10
   (pur Tryz.prog (nilV v_b) fun t14 => 
  pur Tryz.prog (Instr.fieldAt 51 t14 22) fun t15 => 
  rd Tryz.prog (Instr.loadAt 46 t15) (fun t16 => 
  pur Tryz.prog (Instr.indexAt 46 t16 v_i) fun t18 => 
  rd Tryz.prog (Instr.loadAt 234 t18) (fun t19 => 
  pur Tryz.prog (nilV v_b) fun t21 => 
  pur Tryz.prog (Instr.fieldAt 51 t21 23) fun t22 => 
  rd Tryz.prog (Instr.loadAt 46 t22) (fun t23 => 
  pur Tryz.prog (Instr.indexAt 46 t23 v_i) fun t25 => 
  rd Tryz.prog (Instr.loadAt 234 t25) (fun t26 => 
  callS Tryz.prog 202 #[t19, t26] (fun t27 w_2 => 
  pur Tryz.prog (Op.unary .not t27) fun t28 => 
  condS t28
   (Q (.bool false) w_2)
   (pur Tryz.prog (binS .add 3 false true v_i (.int .i64 1)) fun t12 => 
  J t12 w_2)) (World.drew w_1)) (World.drew w_1)) (World.drew w_1)) (World.drew w_1)) (World.drew w_1))
   (Q (.bool true) w_1)) w_1) [(.int .i64 0)] w
theorem eq113 (v_b : Value) (Q : Value → World → Prop) (w : World) : semF Tryz.prog 113 [v_b] Q w = S113 v_b Q w := by kernel_rfl
theorem ref113 {v_b : Value} {Q : Value → World → Prop} {w : World} (h : S113 v_b Q w) : callS Tryz.prog 113 #[v_b] Q w :=
  callS_of mix (fun a w => Tryz.call113 a w) (by kernel_rfl) (by rw [eq113]; exact h)
-- (*commons/commonsbook.Book).stillParts
def S114 (v_b : Value) (Q : Value → World → Prop) (w : World) : Prop :=
 lp 1 (fun J => fun v_i w_1 => ∀ _j : Fr, 
  pur Tryz.prog (nilV v_b) fun t6 => 
  pur Tryz.prog (Instr.fieldAt 51 t6 24) fun t7 => 
  rd Tryz.prog (Instr.loadAt 47 t7) (fun t8 => 
  pur Tryz.prog (Builtin.len_ #[47] 3 #[t8]) fun t9 => 
  pur Tryz.prog (binS .lss 3 false false v_i t9) fun t10 => 
  condS t10
   (pur Tryz.prog (nilV v_b) fun t14 => 
  pur Tryz.prog (Instr.fieldAt 51 t14 24) fun t15 => 
  rd Tryz.prog (Instr.loadAt 47 t15) (fun t16 => 
  pur Tryz.prog (Instr.indexAt 47 t16 v_i) fun t18 => 
  rd Tryz.prog (Instr.loadAt 93 t18) (fun t19 => 
  pur Tryz.prog (nilV v_b) fun t21 => 
  pur Tryz.prog (Instr.fieldAt 51 t21 25) fun t22 => 
  rd Tryz.prog (Instr.loadAt 47 t22) (fun t23 => 
  pur Tryz.prog (Instr.indexAt 47 t23 v_i) fun t25 => 
  rd Tryz.prog (Instr.loadAt 93 t25) (fun t26 => 
  callS Tryz.prog 203 #[t19, t26] (fun t27 w_2 => 
  pur Tryz.prog (Op.unary .not t27) fun t28 => 
  condS t28
   (Q (.bool false) w_2)
   (pur Tryz.prog (binS .add 3 false true v_i (.int .i64 1)) fun t12 => 
  J t12 w_2)) (World.drew w_1)) (World.drew w_1)) (World.drew w_1)) (World.drew w_1)) (World.drew w_1))
   (Q (.bool true) w_1)) w_1) [(.int .i64 0)] w
theorem eq114 (v_b : Value) (Q : Value → World → Prop) (w : World) : semF Tryz.prog 114 [v_b] Q w = S114 v_b Q w := by kernel_rfl
theorem ref114 {v_b : Value} {Q : Value → World → Prop} {w : World} (h : S114 v_b Q w) : callS Tryz.prog 114 #[v_b] Q w :=
  callS_of mix (fun a w => Tryz.call114 a w) (by kernel_rfl) (by rw [eq114]; exact h)
-- (*commons/commonsbook.Book).stillMsgs
def S115 (v_b : Value) (Q : Value → World → Prop) (w : World) : Prop :=
 lp 1 (fun J => fun v_i w_1 => ∀ _j : Fr, 
  pur Tryz.prog (nilV v_b) fun t6 => 
  pur Tryz.prog (Instr.fieldAt 51 t6 26) fun t7 => 
  rd Tryz.prog (Instr.loadAt 48 t7) (fun t8 => 
  pur Tryz.prog (Builtin.len_ #[48] 3 #[t8]) fun t9 => 
  pur Tryz.prog (binS .lss 3 false false v_i t9) fun t10 => 
  condS t10
   (pur Tryz.prog (nilV v_b) fun t14 => 
  pur Tryz.prog (Instr.fieldAt 51 t14 26) fun t15 => 
  rd Tryz.prog (Instr.loadAt 48 t15) (fun t16 => 
  pur Tryz.prog (Instr.indexAt 48 t16 v_i) fun t18 => 
  rd Tryz.prog (Instr.loadAt 237 t18) (fun t19 => 
  pur Tryz.prog (nilV v_b) fun t21 => 
  pur Tryz.prog (Instr.fieldAt 51 t21 27) fun t22 => 
  rd Tryz.prog (Instr.loadAt 48 t22) (fun t23 => 
  pur Tryz.prog (Instr.indexAt 48 t23 v_i) fun t25 => 
  rd Tryz.prog (Instr.loadAt 237 t25) (fun t26 => 
  callS Tryz.prog 204 #[t19, t26] (fun t27 w_2 => 
  pur Tryz.prog (Op.unary .not t27) fun t28 => 
  condS t28
   (Q (.bool false) w_2)
   (pur Tryz.prog (binS .add 3 false true v_i (.int .i64 1)) fun t12 => 
  J t12 w_2)) (World.drew w_1)) (World.drew w_1)) (World.drew w_1)) (World.drew w_1)) (World.drew w_1))
   (Q (.bool true) w_1)) w_1) [(.int .i64 0)] w
theorem eq115 (v_b : Value) (Q : Value → World → Prop) (w : World) : semF Tryz.prog 115 [v_b] Q w = S115 v_b Q w := by kernel_rfl
theorem ref115 {v_b : Value} {Q : Value → World → Prop} {w : World} (h : S115 v_b Q w) : callS Tryz.prog 115 #[v_b] Q w :=
  callS_of mix (fun a w => Tryz.call115 a w) (by kernel_rfl) (by rw [eq115]; exact h)
-- (*commons/commonsbook.Book).stillSteps
def S116 (v_b : Value) (Q : Value → World → Prop) (w : World) : Prop :=
 lp 1 (fun J => fun v_i w_1 => ∀ _j : Fr, 
  pur Tryz.prog (nilV v_b) fun t6 => 
  pur Tryz.prog (Instr.fieldAt 51 t6 28) fun t7 => 
  rd Tryz.prog (Instr.loadAt 49 t7) (fun t8 => 
  pur Tryz.prog (Builtin.len_ #[49] 3 #[t8]) fun t9 => 
  pur Tryz.prog (binS .lss 3 false false v_i t9) fun t10 => 
  condS t10
   (pur Tryz.prog (nilV v_b) fun t14 => 
  pur Tryz.prog (Instr.fieldAt 51 t14 28) fun t15 => 
  rd Tryz.prog (Instr.loadAt 49 t15) (fun t16 => 
  pur Tryz.prog (Instr.indexAt 49 t16 v_i) fun t18 => 
  rd Tryz.prog (Instr.loadAt 239 t18) (fun t19 => 
  pur Tryz.prog (nilV v_b) fun t21 => 
  pur Tryz.prog (Instr.fieldAt 51 t21 29) fun t22 => 
  rd Tryz.prog (Instr.loadAt 49 t22) (fun t23 => 
  pur Tryz.prog (Instr.indexAt 49 t23 v_i) fun t25 => 
  rd Tryz.prog (Instr.loadAt 239 t25) (fun t26 => 
  callS Tryz.prog 205 #[t19, t26] (fun t27 w_2 => 
  pur Tryz.prog (Op.unary .not t27) fun t28 => 
  condS t28
   (Q (.bool false) w_2)
   (pur Tryz.prog (binS .add 3 false true v_i (.int .i64 1)) fun t12 => 
  J t12 w_2)) (World.drew w_1)) (World.drew w_1)) (World.drew w_1)) (World.drew w_1)) (World.drew w_1))
   (Q (.bool true) w_1)) w_1) [(.int .i64 0)] w
theorem eq116 (v_b : Value) (Q : Value → World → Prop) (w : World) : semF Tryz.prog 116 [v_b] Q w = S116 v_b Q w := by kernel_rfl
theorem ref116 {v_b : Value} {Q : Value → World → Prop} {w : World} (h : S116 v_b Q w) : callS Tryz.prog 116 #[v_b] Q w :=
  callS_of mix (fun a w => Tryz.call116 a w) (by kernel_rfl) (by rw [eq116]; exact h)
-- (*commons/commonsbook.Book).putRecords
def S117 (v_b : Value) (Q : Value → World → Prop) (w : World) : Prop :=
 lp 1 (fun J => fun v_i w_1 => ∀ _j : Fr, 
  pur Tryz.prog (nilV v_b) fun t7 => 
  pur Tryz.prog (Instr.fieldAt 51 t7 12) fun t8 => 
  rd Tryz.prog (Instr.loadAt 41 t8) (fun t9 => 
  pur Tryz.prog (Builtin.len_ #[41] 3 #[t9]) fun t10 => 
  pur Tryz.prog (binS .lss 3 false false v_i t10) fun t11 => 
  condS t11
   (pur Tryz.prog (nilV v_b) fun t16 => 
  pur Tryz.prog (Instr.fieldAt 51 t16 12) fun t17 => 
  rd Tryz.prog (Instr.loadAt 41 t17) (fun t18 => 
  pur Tryz.prog (Instr.indexAt 41 t18 v_i) fun t20 => 
  rd Tryz.prog (Instr.loadAt 224 t20) (fun t21 => 
  pur Tryz.prog (Builtin.len_ #[224] 3 #[t21]) fun t22 => 
  callS Tryz.prog 206 #[v_i, (.int .i64 0), t22] (fun t23 w_2 => 
  lp 1 (fun J_1 => fun v_k w_3 => ∀ _j : Fr, 
   pur Tryz.prog (Builtin.len_ #[224] 3 #[t23]) fun t26 => 
   pur Tryz.prog (binS .lss 3 false false v_k t26) fun t27 => 
   condS t27
    (pur Tryz.prog (nilV v_b) fun t31 => 
   pur Tryz.prog (Instr.fieldAt 51 t31 12) fun t32 => 
   rd Tryz.prog (Instr.loadAt 41 t32) (fun t33 => 
   pur Tryz.prog (Instr.indexAt 41 t33 v_i) fun t35 => 
   rd Tryz.prog (Instr.loadAt 224 t35) (fun t36 => 
   pur Tryz.prog (Instr.indexAt 224 t23 v_k) fun t40 => 
   rd Tryz.prog (Instr.loadAt 242 t40) (fun t41 => 
   pur Tryz.prog (Instr.indexAt 224 t36 v_k) fun t42 => 
   act Tryz.prog (thenU (Instr.storeAt 242 t42 t41)) (fun _ w_4 => 
   pur Tryz.prog (binS .add 3 false true v_k (.int .i64 1)) fun t29 => 
   J_1 t29 w_4) (World.drew w_3)) (World.drew w_3)) (World.drew w_3)) (World.drew w_3))
    (pur Tryz.prog (binS .add 3 false true v_i (.int .i64 1)) fun t13 => 
  J t13 w_3)) [(.int .i64 0)] w_2) w_1) w_1) w_1)
   (Q (.tuple #[]) w_1)) w_1) [(.int .i64 0)] w
theorem eq117 (v_b : Value) (Q : Value → World → Prop) (w : World) : semF Tryz.prog 117 [v_b] Q w = S117 v_b Q w := by kernel_rfl
theorem ref117 {v_b : Value} {Q : Value → World → Prop} {w : World} (h : S117 v_b Q w) : callS Tryz.prog 117 #[v_b] Q w :=
  callS_of mix (fun a w => Tryz.call117 a w) (by kernel_rfl) (by rw [eq117]; exact h)
-- (*commons/commonsbook.Book).putMsgs
def S118 (v_b : Value) (Q : Value → World → Prop) (w : World) : Prop :=
 lp 1 (fun J => fun v_i w_1 => ∀ _j : Fr, 
  pur Tryz.prog (nilV v_b) fun t7 => 
  pur Tryz.prog (Instr.fieldAt 51 t7 26) fun t8 => 
  rd Tryz.prog (Instr.loadAt 48 t8) (fun t9 => 
  pur Tryz.prog (Builtin.len_ #[48] 3 #[t9]) fun t10 => 
  pur Tryz.prog (binS .lss 3 false false v_i t10) fun t11 => 
  condS t11
   (pur Tryz.prog (nilV v_b) fun t16 => 
  pur Tryz.prog (Instr.fieldAt 51 t16 26) fun t17 => 
  rd Tryz.prog (Instr.loadAt 48 t17) (fun t18 => 
  pur Tryz.prog (Instr.indexAt 48 t18 v_i) fun t20 => 
  rd Tryz.prog (Instr.loadAt 237 t20) (fun t21 => 
  pur Tryz.prog (Builtin.len_ #[237] 3 #[t21]) fun t22 => 
  callS Tryz.prog 207 #[v_i, (.int .i64 0), t22] (fun t23 w_2 => 
  lp 1 (fun J_1 => fun v_k w_3 => ∀ _j : Fr, 
   pur Tryz.prog (Builtin.len_ #[237] 3 #[t23]) fun t26 => 
   pur Tryz.prog (binS .lss 3 false false v_k t26) fun t27 => 
   condS t27
    (pur Tryz.prog (nilV v_b) fun t31 => 
   pur Tryz.prog (Instr.fieldAt 51 t31 26) fun t32 => 
   rd Tryz.prog (Instr.loadAt 48 t32) (fun t33 => 
   pur Tryz.prog (Instr.indexAt 48 t33 v_i) fun t35 => 
   rd Tryz.prog (Instr.loadAt 237 t35) (fun t36 => 
   pur Tryz.prog (Instr.indexAt 237 t23 v_k) fun t40 => 
   rd Tryz.prog (Instr.loadAt 245 t40) (fun t41 => 
   pur Tryz.prog (Instr.indexAt 237 t36 v_k) fun t42 => 
   act Tryz.prog (thenU (Instr.storeAt 245 t42 t41)) (fun _ w_4 => 
   pur Tryz.prog (binS .add 3 false true v_k (.int .i64 1)) fun t29 => 
   J_1 t29 w_4) (World.drew w_3)) (World.drew w_3)) (World.drew w_3)) (World.drew w_3))
    (pur Tryz.prog (binS .add 3 false true v_i (.int .i64 1)) fun t13 => 
  J t13 w_3)) [(.int .i64 0)] w_2) w_1) w_1) w_1)
   (Q (.tuple #[]) w_1)) w_1) [(.int .i64 0)] w
theorem eq118 (v_b : Value) (Q : Value → World → Prop) (w : World) : semF Tryz.prog 118 [v_b] Q w = S118 v_b Q w := by kernel_rfl
theorem ref118 {v_b : Value} {Q : Value → World → Prop} {w : World} (h : S118 v_b Q w) : callS Tryz.prog 118 #[v_b] Q w :=
  callS_of mix (fun a w => Tryz.call118 a w) (by kernel_rfl) (by rw [eq118]; exact h)
-- (*commons/commonsbook.Book).putSteps
def S119 (v_b : Value) (Q : Value → World → Prop) (w : World) : Prop :=
 lp 1 (fun J => fun v_i w_1 => ∀ _j : Fr, 
  pur Tryz.prog (nilV v_b) fun t7 => 
  pur Tryz.prog (Instr.fieldAt 51 t7 28) fun t8 => 
  rd Tryz.prog (Instr.loadAt 49 t8) (fun t9 => 
  pur Tryz.prog (Builtin.len_ #[49] 3 #[t9]) fun t10 => 
  pur Tryz.prog (binS .lss 3 false false v_i t10) fun t11 => 
  condS t11
   (pur Tryz.prog (nilV v_b) fun t16 => 
  pur Tryz.prog (Instr.fieldAt 51 t16 28) fun t17 => 
  rd Tryz.prog (Instr.loadAt 49 t17) (fun t18 => 
  pur Tryz.prog (Instr.indexAt 49 t18 v_i) fun t20 => 
  rd Tryz.prog (Instr.loadAt 239 t20) (fun t21 => 
  pur Tryz.prog (Builtin.len_ #[239] 3 #[t21]) fun t22 => 
  callS Tryz.prog 208 #[v_i, (.int .i64 0), t22] (fun t23 w_2 => 
  lp 1 (fun J_1 => fun v_k w_3 => ∀ _j : Fr, 
   pur Tryz.prog (Builtin.len_ #[239] 3 #[t23]) fun t26 => 
   pur Tryz.prog (binS .lss 3 false false v_k t26) fun t27 => 
   condS t27
    (pur Tryz.prog (nilV v_b) fun t31 => 
   pur Tryz.prog (Instr.fieldAt 51 t31 28) fun t32 => 
   rd Tryz.prog (Instr.loadAt 49 t32) (fun t33 => 
   pur Tryz.prog (Instr.indexAt 49 t33 v_i) fun t35 => 
   rd Tryz.prog (Instr.loadAt 239 t35) (fun t36 => 
   pur Tryz.prog (Instr.indexAt 239 t23 v_k) fun t40 => 
   rd Tryz.prog (Instr.loadAt 248 t40) (fun t41 => 
   pur Tryz.prog (Instr.indexAt 239 t36 v_k) fun t42 => 
   act Tryz.prog (thenU (Instr.storeAt 248 t42 t41)) (fun _ w_4 => 
   pur Tryz.prog (binS .add 3 false true v_k (.int .i64 1)) fun t29 => 
   J_1 t29 w_4) (World.drew w_3)) (World.drew w_3)) (World.drew w_3)) (World.drew w_3))
    (pur Tryz.prog (binS .add 3 false true v_i (.int .i64 1)) fun t13 => 
  J t13 w_3)) [(.int .i64 0)] w_2) w_1) w_1) w_1)
   (Q (.tuple #[]) w_1)) w_1) [(.int .i64 0)] w
theorem eq119 (v_b : Value) (Q : Value → World → Prop) (w : World) : semF Tryz.prog 119 [v_b] Q w = S119 v_b Q w := by kernel_rfl
theorem ref119 {v_b : Value} {Q : Value → World → Prop} {w : World} (h : S119 v_b Q w) : callS Tryz.prog 119 #[v_b] Q w :=
  callS_of mix (fun a w => Tryz.call119 a w) (by kernel_rfl) (by rw [eq119]; exact h)
-- (*commons/commonsbook.Book).putTexts
def S120 (v_b : Value) (Q : Value → World → Prop) (w : World) : Prop :=
 lp 1 (fun J => fun v_i w_1 => ∀ _j : Fr, 
  pur Tryz.prog (nilV v_b) fun t7 => 
  pur Tryz.prog (Instr.fieldAt 51 t7 0) fun t8 => 
  rd Tryz.prog (Instr.loadAt 35 t8) (fun t9 => 
  pur Tryz.prog (Builtin.len_ #[35] 3 #[t9]) fun t10 => 
  pur Tryz.prog (binS .lss 3 false false v_i t10) fun t11 => 
  condS t11
   (pur Tryz.prog (nilV v_b) fun t16 => 
  pur Tryz.prog (Instr.fieldAt 51 t16 0) fun t17 => 
  rd Tryz.prog (Instr.loadAt 35 t17) (fun t18 => 
  pur Tryz.prog (Instr.indexAt 35 t18 v_i) fun t20 => 
  rd Tryz.prog (Instr.loadAt 220 t20) (fun t21 => 
  pur Tryz.prog (Builtin.len_ #[220] 3 #[t21]) fun t22 => 
  callS Tryz.prog 209 #[v_i, (.int .i64 0), t22] (fun t23 w_2 => 
  lp 1 (fun J_1 => fun v_k w_3 => ∀ _j : Fr, 
   pur Tryz.prog (Builtin.len_ #[220] 3 #[t23]) fun t26 => 
   pur Tryz.prog (binS .lss 3 false false v_k t26) fun t27 => 
   condS t27
    (pur Tryz.prog (nilV v_b) fun t31 => 
   pur Tryz.prog (Instr.fieldAt 51 t31 0) fun t32 => 
   rd Tryz.prog (Instr.loadAt 35 t32) (fun t33 => 
   pur Tryz.prog (Instr.indexAt 35 t33 v_i) fun t35 => 
   rd Tryz.prog (Instr.loadAt 220 t35) (fun t36 => 
   pur Tryz.prog (Instr.indexAt 220 t23 v_k) fun t40 => 
   rd Tryz.prog (Instr.loadAt 9 t40) (fun t41 => 
   pur Tryz.prog (Instr.indexAt 220 t36 v_k) fun t42 => 
   act Tryz.prog (thenU (Instr.storeAt 9 t42 t41)) (fun _ w_4 => 
   pur Tryz.prog (binS .add 3 false true v_k (.int .i64 1)) fun t29 => 
   J_1 t29 w_4) (World.drew w_3)) (World.drew w_3)) (World.drew w_3)) (World.drew w_3))
    (pur Tryz.prog (binS .add 3 false true v_i (.int .i64 1)) fun t13 => 
  J t13 w_3)) [(.int .i64 0)] w_2) w_1) w_1) w_1)
   (Q (.tuple #[]) w_1)) w_1) [(.int .i64 0)] w
theorem eq120 (v_b : Value) (Q : Value → World → Prop) (w : World) : semF Tryz.prog 120 [v_b] Q w = S120 v_b Q w := by kernel_rfl
theorem ref120 {v_b : Value} {Q : Value → World → Prop} {w : World} (h : S120 v_b Q w) : callS Tryz.prog 120 #[v_b] Q w :=
  callS_of mix (fun a w => Tryz.call120 a w) (by kernel_rfl) (by rw [eq120]; exact h)
-- (*commons/commonsbook.Book).putInts
def S121 (v_b : Value) (Q : Value → World → Prop) (w : World) : Prop :=
 lp 1 (fun J => fun v_i w_1 => ∀ _j : Fr, 
  pur Tryz.prog (nilV v_b) fun t7 => 
  pur Tryz.prog (Instr.fieldAt 51 t7 2) fun t8 => 
  rd Tryz.prog (Instr.loadAt 36 t8) (fun t9 => 
  pur Tryz.prog (Builtin.len_ #[36] 3 #[t9]) fun t10 => 
  pur Tryz.prog (binS .lss 3 false false v_i t10) fun t11 => 
  condS t11
   (pur Tryz.prog (nilV v_b) fun t16 => 
  pur Tryz.prog (Instr.fieldAt 51 t16 2) fun t17 => 
  rd Tryz.prog (Instr.loadAt 36 t17) (fun t18 => 
  pur Tryz.prog (Instr.indexAt 36 t18 v_i) fun t20 => 
  rd Tryz.prog (Instr.loadAt 64 t20) (fun t21 => 
  pur Tryz.prog (Builtin.len_ #[64] 3 #[t21]) fun t22 => 
  callS Tryz.prog 210 #[v_i, (.int .i64 0), t22] (fun t23 w_2 => 
  lp 1 (fun J_1 => fun v_k w_3 => ∀ _j : Fr, 
   pur Tryz.prog (Builtin.len_ #[64] 3 #[t23]) fun t26 => 
   pur Tryz.prog (binS .lss 3 false false v_k t26) fun t27 => 
   condS t27
    (pur Tryz.prog (nilV v_b) fun t31 => 
   pur Tryz.prog (Instr.fieldAt 51 t31 2) fun t32 => 
   rd Tryz.prog (Instr.loadAt 36 t32) (fun t33 => 
   pur Tryz.prog (Instr.indexAt 36 t33 v_i) fun t35 => 
   rd Tryz.prog (Instr.loadAt 64 t35) (fun t36 => 
   pur Tryz.prog (Instr.indexAt 64 t23 v_k) fun t40 => 
   rd Tryz.prog (Instr.loadAt 3 t40) (fun t41 => 
   pur Tryz.prog (Instr.indexAt 64 t36 v_k) fun t42 => 
   act Tryz.prog (thenU (Instr.storeAt 3 t42 t41)) (fun _ w_4 => 
   pur Tryz.prog (binS .add 3 false true v_k (.int .i64 1)) fun t29 => 
   J_1 t29 w_4) (World.drew w_3)) (World.drew w_3)) (World.drew w_3)) (World.drew w_3))
    (pur Tryz.prog (binS .add 3 false true v_i (.int .i64 1)) fun t13 => 
  J t13 w_3)) [(.int .i64 0)] w_2) w_1) w_1) w_1)
   (Q (.tuple #[]) w_1)) w_1) [(.int .i64 0)] w
theorem eq121 (v_b : Value) (Q : Value → World → Prop) (w : World) : semF Tryz.prog 121 [v_b] Q w = S121 v_b Q w := by kernel_rfl
theorem ref121 {v_b : Value} {Q : Value → World → Prop} {w : World} (h : S121 v_b Q w) : callS Tryz.prog 121 #[v_b] Q w :=
  callS_of mix (fun a w => Tryz.call121 a w) (by kernel_rfl) (by rw [eq121]; exact h)
-- (*commons/commonsbook.Book).putNums
def S122 (v_b : Value) (Q : Value → World → Prop) (w : World) : Prop :=
 lp 1 (fun J => fun v_i w_1 => ∀ _j : Fr, 
  pur Tryz.prog (nilV v_b) fun t7 => 
  pur Tryz.prog (Instr.fieldAt 51 t7 4) fun t8 => 
  rd Tryz.prog (Instr.loadAt 37 t8) (fun t9 => 
  pur Tryz.prog (Builtin.len_ #[37] 3 #[t9]) fun t10 => 
  pur Tryz.prog (binS .lss 3 false false v_i t10) fun t11 => 
  condS t11
   (pur Tryz.prog (nilV v_b) fun t16 => 
  pur Tryz.prog (Instr.fieldAt 51 t16 4) fun t17 => 
  rd Tryz.prog (Instr.loadAt 37 t17) (fun t18 => 
  pur Tryz.prog (Instr.indexAt 37 t18 v_i) fun t20 => 
  rd Tryz.prog (Instr.loadAt 222 t20) (fun t21 => 
  pur Tryz.prog (Builtin.len_ #[222] 3 #[t21]) fun t22 => 
  callS Tryz.prog 211 #[v_i, (.int .i64 0), t22] (fun t23 w_2 => 
  lp 1 (fun J_1 => fun v_k w_3 => ∀ _j : Fr, 
   pur Tryz.prog (Builtin.len_ #[222] 3 #[t23]) fun t26 => 
   pur Tryz.prog (binS .lss 3 false false v_k t26) fun t27 => 
   condS t27
    (pur Tryz.prog (nilV v_b) fun t31 => 
   pur Tryz.prog (Instr.fieldAt 51 t31 4) fun t32 => 
   rd Tryz.prog (Instr.loadAt 37 t32) (fun t33 => 
   pur Tryz.prog (Instr.indexAt 37 t33 v_i) fun t35 => 
   rd Tryz.prog (Instr.loadAt 222 t35) (fun t36 => 
   pur Tryz.prog (Instr.indexAt 222 t23 v_k) fun t40 => 
   rd Tryz.prog (Instr.loadAt 136 t40) (fun t41 => 
   pur Tryz.prog (Instr.indexAt 222 t36 v_k) fun t42 => 
   act Tryz.prog (thenU (Instr.storeAt 136 t42 t41)) (fun _ w_4 => 
   pur Tryz.prog (binS .add 3 false true v_k (.int .i64 1)) fun t29 => 
   J_1 t29 w_4) (World.drew w_3)) (World.drew w_3)) (World.drew w_3)) (World.drew w_3))
    (pur Tryz.prog (binS .add 3 false true v_i (.int .i64 1)) fun t13 => 
  J t13 w_3)) [(.int .i64 0)] w_2) w_1) w_1) w_1)
   (Q (.tuple #[]) w_1)) w_1) [(.int .i64 0)] w
theorem eq122 (v_b : Value) (Q : Value → World → Prop) (w : World) : semF Tryz.prog 122 [v_b] Q w = S122 v_b Q w := by kernel_rfl
theorem ref122 {v_b : Value} {Q : Value → World → Prop} {w : World} (h : S122 v_b Q w) : callS Tryz.prog 122 #[v_b] Q w :=
  callS_of mix (fun a w => Tryz.call122 a w) (by kernel_rfl) (by rw [eq122]; exact h)
-- (*commons/commonsbook.Book).putSpans
def S123 (v_b : Value) (Q : Value → World → Prop) (w : World) : Prop :=
 lp 1 (fun J => fun v_i w_1 => ∀ _j : Fr, 
  pur Tryz.prog (nilV v_b) fun t7 => 
  pur Tryz.prog (Instr.fieldAt 51 t7 6) fun t8 => 
  rd Tryz.prog (Instr.loadAt 38 t8) (fun t9 => 
  pur Tryz.prog (Builtin.len_ #[38] 3 #[t9]) fun t10 => 
  pur Tryz.prog (binS .lss 3 false false v_i t10) fun t11 => 
  condS t11
   (pur Tryz.prog (nilV v_b) fun t16 => 
  pur Tryz.prog (Instr.fieldAt 51 t16 6) fun t17 => 
  rd Tryz.prog (Instr.loadAt 38 t17) (fun t18 => 
  pur Tryz.prog (Instr.indexAt 38 t18 v_i) fun t20 => 
  rd Tryz.prog (Instr.loadAt 70 t20) (fun t21 => 
  pur Tryz.prog (Builtin.len_ #[70] 3 #[t21]) fun t22 => 
  callS Tryz.prog 212 #[v_i, (.int .i64 0), t22] (fun t23 w_2 => 
  lp 1 (fun J_1 => fun v_k w_3 => ∀ _j : Fr, 
   pur Tryz.prog (Builtin.len_ #[70] 3 #[t23]) fun t26 => 
   pur Tryz.prog (binS .lss 3 false false v_k t26) fun t27 => 
   condS t27
    (pur Tryz.prog (nilV v_b) fun t31 => 
   pur Tryz.prog (Instr.fieldAt 51 t31 6) fun t32 => 
   rd Tryz.prog (Instr.loadAt 38 t32) (fun t33 => 
   pur Tryz.prog (Instr.indexAt 38 t33 v_i) fun t35 => 
   rd Tryz.prog (Instr.loadAt 70 t35) (fun t36 => 
   pur Tryz.prog (Instr.indexAt 70 t23 v_k) fun t40 => 
   rd Tryz.prog (Instr.loadAt 72 t40) (fun t41 => 
   pur Tryz.prog (Instr.indexAt 70 t36 v_k) fun t42 => 
   act Tryz.prog (thenU (Instr.storeAt 72 t42 t41)) (fun _ w_4 => 
   pur Tryz.prog (binS .add 3 false true v_k (.int .i64 1)) fun t29 => 
   J_1 t29 w_4) (World.drew w_3)) (World.drew w_3)) (World.drew w_3)) (World.drew w_3))
    (pur Tryz.prog (binS .add 3 false true v_i (.int .i64 1)) fun t13 => 
  J t13 w_3)) [(.int .i64 0)] w_2) w_1) w_1) w_1)
   (Q (.tuple #[]) w_1)) w_1) [(.int .i64 0)] w
theorem eq123 (v_b : Value) (Q : Value → World → Prop) (w : World) : semF Tryz.prog 123 [v_b] Q w = S123 v_b Q w := by kernel_rfl
theorem ref123 {v_b : Value} {Q : Value → World → Prop} {w : World} (h : S123 v_b Q w) : callS Tryz.prog 123 #[v_b] Q w :=
  callS_of mix (fun a w => Tryz.call123 a w) (by kernel_rfl) (by rw [eq123]; exact h)
-- (*commons/commonsbook.Book).putLocks
def S124 (v_b : Value) (Q : Value → World → Prop) (w : World) : Prop :=
 lp 1 (fun J => fun v_i w_1 => ∀ _j : Fr, 
  pur Tryz.prog (nilV v_b) fun t7 => 
  pur Tryz.prog (Instr.fieldAt 51 t7 8) fun t8 => 
  rd Tryz.prog (Instr.loadAt 39 t8) (fun t9 => 
  pur Tryz.prog (Builtin.len_ #[39] 3 #[t9]) fun t10 => 
  pur Tryz.prog (binS .lss 3 false false v_i t10) fun t11 => 
  condS t11
   (pur Tryz.prog (nilV v_b) fun t16 => 
  pur Tryz.prog (Instr.fieldAt 51 t16 8) fun t17 => 
  rd Tryz.prog (Instr.loadAt 39 t17) (fun t18 => 
  pur Tryz.prog (Instr.indexAt 39 t18 v_i) fun t20 => 
  rd Tryz.prog (Instr.loadAt 109 t20) (fun t21 => 
  pur Tryz.prog (Builtin.len_ #[109] 3 #[t21]) fun t22 => 
  callS Tryz.prog 213 #[v_i, (.int .i64 0), t22] (fun t23 w_2 => 
  lp 1 (fun J_1 => fun v_k w_3 => ∀ _j : Fr, 
   pur Tryz.prog (Builtin.len_ #[109] 3 #[t23]) fun t26 => 
   pur Tryz.prog (binS .lss 3 false false v_k t26) fun t27 => 
   condS t27
    (pur Tryz.prog (nilV v_b) fun t31 => 
   pur Tryz.prog (Instr.fieldAt 51 t31 8) fun t32 => 
   rd Tryz.prog (Instr.loadAt 39 t32) (fun t33 => 
   pur Tryz.prog (Instr.indexAt 39 t33 v_i) fun t35 => 
   rd Tryz.prog (Instr.loadAt 109 t35) (fun t36 => 
   pur Tryz.prog (Instr.indexAt 109 t23 v_k) fun t40 => 
   rd Tryz.prog (Instr.loadAt 143 t40) (fun t41 => 
   pur Tryz.prog (Instr.indexAt 109 t36 v_k) fun t42 => 
   act Tryz.prog (thenU (Instr.storeAt 143 t42 t41)) (fun _ w_4 => 
   pur Tryz.prog (binS .add 3 false true v_k (.int .i64 1)) fun t29 => 
   J_1 t29 w_4) (World.drew w_3)) (World.drew w_3)) (World.drew w_3)) (World.drew w_3))
    (pur Tryz.prog (binS .add 3 false true v_i (.int .i64 1)) fun t13 => 
  J t13 w_3)) [(.int .i64 0)] w_2) w_1) w_1) w_1)
   (Q (.tuple #[]) w_1)) w_1) [(.int .i64 0)] w
theorem eq124 (v_b : Value) (Q : Value → World → Prop) (w : World) : semF Tryz.prog 124 [v_b] Q w = S124 v_b Q w := by kernel_rfl
theorem ref124 {v_b : Value} {Q : Value → World → Prop} {w : World} (h : S124 v_b Q w) : callS Tryz.prog 124 #[v_b] Q w :=
  callS_of mix (fun a w => Tryz.call124 a w) (by kernel_rfl) (by rw [eq124]; exact h)
-- (*commons/commonsbook.Book).putImages
def S125 (v_b : Value) (Q : Value → World → Prop) (w : World) : Prop :=
 lp 1 (fun J => fun v_i w_1 => ∀ _j : Fr, 
  pur Tryz.prog (nilV v_b) fun t7 => 
  pur Tryz.prog (Instr.fieldAt 51 t7 10) fun t8 => 
  rd Tryz.prog (Instr.loadAt 40 t8) (fun t9 => 
  pur Tryz.prog (Builtin.len_ #[40] 3 #[t9]) fun t10 => 
  pur Tryz.prog (binS .lss 3 false false v_i t10) fun t11 => 
  condS t11
   (pur Tryz.prog (nilV v_b) fun t16 => 
  pur Tryz.prog (Instr.fieldAt 51 t16 10) fun t17 => 
  rd Tryz.prog (Instr.loadAt 40 t17) (fun t18 => 
  pur Tryz.prog (Instr.indexAt 40 t18 v_i) fun t20 => 
  rd Tryz.prog (Instr.loadAt 131 t20) (fun t21 => 
  pur Tryz.prog (Builtin.len_ #[131] 3 #[t21]) fun t22 => 
  callS Tryz.prog 214 #[v_i, (.int .i64 0), t22] (fun t23 w_2 => 
  lp 1 (fun J_1 => fun v_k w_3 => ∀ _j : Fr, 
   pur Tryz.prog (Builtin.len_ #[131] 3 #[t23]) fun t26 => 
   pur Tryz.prog (binS .lss 3 false false v_k t26) fun t27 => 
   condS t27
    (pur Tryz.prog (nilV v_b) fun t31 => 
   pur Tryz.prog (Instr.fieldAt 51 t31 10) fun t32 => 
   rd Tryz.prog (Instr.loadAt 40 t32) (fun t33 => 
   pur Tryz.prog (Instr.indexAt 40 t33 v_i) fun t35 => 
   rd Tryz.prog (Instr.loadAt 131 t35) (fun t36 => 
   pur Tryz.prog (Instr.indexAt 131 t23 v_k) fun t40 => 
   rd Tryz.prog (Instr.loadAt 138 t40) (fun t41 => 
   pur Tryz.prog (Instr.indexAt 131 t36 v_k) fun t42 => 
   act Tryz.prog (thenU (Instr.storeAt 138 t42 t41)) (fun _ w_4 => 
   pur Tryz.prog (binS .add 3 false true v_k (.int .i64 1)) fun t29 => 
   J_1 t29 w_4) (World.drew w_3)) (World.drew w_3)) (World.drew w_3)) (World.drew w_3))
    (pur Tryz.prog (binS .add 3 false true v_i (.int .i64 1)) fun t13 => 
  J t13 w_3)) [(.int .i64 0)] w_2) w_1) w_1) w_1)
   (Q (.tuple #[]) w_1)) w_1) [(.int .i64 0)] w
theorem eq125 (v_b : Value) (Q : Value → World → Prop) (w : World) : semF Tryz.prog 125 [v_b] Q w = S125 v_b Q w := by kernel_rfl
theorem ref125 {v_b : Value} {Q : Value → World → Prop} {w : World} (h : S125 v_b Q w) : callS Tryz.prog 125 #[v_b] Q w :=
  callS_of mix (fun a w => Tryz.call125 a w) (by kernel_rfl) (by rw [eq125]; exact h)
-- (*commons/commonsbook.Book).putPackets
def S126 (v_b : Value) (Q : Value → World → Prop) (w : World) : Prop :=
 lp 1 (fun J => fun v_i w_1 => ∀ _j : Fr, 
  pur Tryz.prog (nilV v_b) fun t7 => 
  pur Tryz.prog (Instr.fieldAt 51 t7 14) fun t8 => 
  rd Tryz.prog (Instr.loadAt 42 t8) (fun t9 => 
  pur Tryz.prog (Builtin.len_ #[42] 3 #[t9]) fun t10 => 
  pur Tryz.prog (binS .lss 3 false false v_i t10) fun t11 => 
  condS t11
   (pur Tryz.prog (nilV v_b) fun t16 => 
  pur Tryz.prog (Instr.fieldAt 51 t16 14) fun t17 => 
  rd Tryz.prog (Instr.loadAt 42 t17) (fun t18 => 
  pur Tryz.prog (Instr.indexAt 42 t18 v_i) fun t20 => 
  rd Tryz.prog (Instr.loadAt 226 t20) (fun t21 => 
  pur Tryz.prog (Builtin.len_ #[226] 3 #[t21]) fun t22 => 
  callS Tryz.prog 215 #[v_i, (.int .i64 0), t22] (fun t23 w_2 => 
  lp 1 (fun J_1 => fun v_k w_3 => ∀ _j : Fr, 
   pur Tryz.prog (Builtin.len_ #[226] 3 #[t23]) fun t26 => 
   pur Tryz.prog (binS .lss 3 false false v_k t26) fun t27 => 
   condS t27
    (pur Tryz.prog (nilV v_b) fun t31 => 
   pur Tryz.prog (Instr.fieldAt 51 t31 14) fun t32 => 
   rd Tryz.prog (Instr.loadAt 42 t32) (fun t33 => 
   pur Tryz.prog (Instr.indexAt 42 t33 v_i) fun t35 => 
   rd Tryz.prog (Instr.loadAt 226 t35) (fun t36 => 
   pur Tryz.prog (Instr.indexAt 226 t23 v_k) fun t40 => 
   rd Tryz.prog (Instr.loadAt 257 t40) (fun t41 => 
   pur Tryz.prog (Instr.indexAt 226 t36 v_k) fun t42 => 
   act Tryz.prog (thenU (Instr.storeAt 257 t42 t41)) (fun _ w_4 => 
   pur Tryz.prog (binS .add 3 false true v_k (.int .i64 1)) fun t29 => 
   J_1 t29 w_4) (World.drew w_3)) (World.drew w_3)) (World.drew w_3)) (World.drew w_3))
    (pur Tryz.prog (binS .add 3 false true v_i (.int .i64 1)) fun t13 => 
  J t13 w_3)) [(.int .i64 0)] w_2) w_1) w_1) w_1)
   (Q (.tuple #[]) w_1)) w_1) [(.int .i64 0)] w
theorem eq126 (v_b : Value) (Q : Value → World → Prop) (w : World) : semF Tryz.prog 126 [v_b] Q w = S126 v_b Q w := by kernel_rfl
theorem ref126 {v_b : Value} {Q : Value → World → Prop} {w : World} (h : S126 v_b Q w) : callS Tryz.prog 126 #[v_b] Q w :=
  callS_of mix (fun a w => Tryz.call126 a w) (by kernel_rfl) (by rw [eq126]; exact h)
-- (*commons/commonsbook.Book).putFrames
def S127 (v_b : Value) (Q : Value → World → Prop) (w : World) : Prop :=
 lp 1 (fun J => fun v_i w_1 => ∀ _j : Fr, 
  pur Tryz.prog (nilV v_b) fun t7 => 
  pur Tryz.prog (Instr.fieldAt 51 t7 16) fun t8 => 
  rd Tryz.prog (Instr.loadAt 43 t8) (fun t9 => 
  pur Tryz.prog (Builtin.len_ #[43] 3 #[t9]) fun t10 => 
  pur Tryz.prog (binS .lss 3 false false v_i t10) fun t11 => 
  condS t11
   (pur Tryz.prog (nilV v_b) fun t16 => 
  pur Tryz.prog (Instr.fieldAt 51 t16 16) fun t17 => 
  rd Tryz.prog (Instr.loadAt 43 t17) (fun t18 => 
  pur Tryz.prog (Instr.indexAt 43 t18 v_i) fun t20 => 
  rd Tryz.prog (Instr.loadAt 228 t20) (fun t21 => 
  pur Tryz.prog (Builtin.len_ #[228] 3 #[t21]) fun t22 => 
  callS Tryz.prog 216 #[v_i, (.int .i64 0), t22] (fun t23 w_2 => 
  lp 1 (fun J_1 => fun v_k w_3 => ∀ _j : Fr, 
   pur Tryz.prog (Builtin.len_ #[228] 3 #[t23]) fun t26 => 
   pur Tryz.prog (binS .lss 3 false false v_k t26) fun t27 => 
   condS t27
    (pur Tryz.prog (nilV v_b) fun t31 => 
   pur Tryz.prog (Instr.fieldAt 51 t31 16) fun t32 => 
   rd Tryz.prog (Instr.loadAt 43 t32) (fun t33 => 
   pur Tryz.prog (Instr.indexAt 43 t33 v_i) fun t35 => 
   rd Tryz.prog (Instr.loadAt 228 t35) (fun t36 => 
   pur Tryz.prog (Instr.indexAt 228 t23 v_k) fun t40 => 
   rd Tryz.prog (Instr.loadAt 260 t40) (fun t41 => 
   pur Tryz.prog (Instr.indexAt 228 t36 v_k) fun t42 => 
   act Tryz.prog (thenU (Instr.storeAt 260 t42 t41)) (fun _ w_4 => 
   pur Tryz.prog (binS .add 3 false true v_k (.int .i64 1)) fun t29 => 
   J_1 t29 w_4) (World.drew w_3)) (World.drew w_3)) (World.drew w_3)) (World.drew w_3))
    (pur Tryz.prog (binS .add 3 false true v_i (.int .i64 1)) fun t13 => 
  J t13 w_3)) [(.int .i64 0)] w_2) w_1) w_1) w_1)
   (Q (.tuple #[]) w_1)) w_1) [(.int .i64 0)] w
theorem eq127 (v_b : Value) (Q : Value → World → Prop) (w : World) : semF Tryz.prog 127 [v_b] Q w = S127 v_b Q w := by kernel_rfl
theorem ref127 {v_b : Value} {Q : Value → World → Prop} {w : World} (h : S127 v_b Q w) : callS Tryz.prog 127 #[v_b] Q w :=
  callS_of mix (fun a w => Tryz.call127 a w) (by kernel_rfl) (by rw [eq127]; exact h)
-- (*commons/commonsbook.Book).putWaits
def S128 (v_b : Value) (Q : Value → World → Prop) (w : World) : Prop :=
 lp 1 (fun J => fun v_i w_1 => ∀ _j : Fr, 
  pur Tryz.prog (nilV v_b) fun t7 => 
  pur Tryz.prog (Instr.fieldAt 51 t7 18) fun t8 => 
  rd Tryz.prog (Instr.loadAt 44 t8) (fun t9 => 
  pur Tryz.prog (Builtin.len_ #[44] 3 #[t9]) fun t10 => 
  pur Tryz.prog (binS .lss 3 false false v_i t10) fun t11 => 
  condS t11
   (pur Tryz.prog (nilV v_b) fun t16 => 
  pur Tryz.prog (Instr.fieldAt 51 t16 18) fun t17 => 
  rd Tryz.prog (Instr.loadAt 44 t17) (fun t18 => 
  pur Tryz.prog (Instr.indexAt 44 t18 v_i) fun t20 => 
  rd Tryz.prog (Instr.loadAt 230 t20) (fun t21 => 
  pur Tryz.prog (Builtin.len_ #[230] 3 #[t21]) fun t22 => 
  callS Tryz.prog 217 #[v_i, (.int .i64 0), t22] (fun t23 w_2 => 
  lp 1 (fun J_1 => fun v_k w_3 => ∀ _j : Fr, 
   pur Tryz.prog (Builtin.len_ #[230] 3 #[t23]) fun t26 => 
   pur Tryz.prog (binS .lss 3 false false v_k t26) fun t27 => 
   condS t27
    (pur Tryz.prog (nilV v_b) fun t31 => 
   pur Tryz.prog (Instr.fieldAt 51 t31 18) fun t32 => 
   rd Tryz.prog (Instr.loadAt 44 t32) (fun t33 => 
   pur Tryz.prog (Instr.indexAt 44 t33 v_i) fun t35 => 
   rd Tryz.prog (Instr.loadAt 230 t35) (fun t36 => 
   pur Tryz.prog (Instr.indexAt 230 t23 v_k) fun t40 => 
   rd Tryz.prog (Instr.loadAt 263 t40) (fun t41 => 
   pur Tryz.prog (Instr.indexAt 230 t36 v_k) fun t42 => 
   act Tryz.prog (thenU (Instr.storeAt 263 t42 t41)) (fun _ w_4 => 
   pur Tryz.prog (binS .add 3 false true v_k (.int .i64 1)) fun t29 => 
   J_1 t29 w_4) (World.drew w_3)) (World.drew w_3)) (World.drew w_3)) (World.drew w_3))
    (pur Tryz.prog (binS .add 3 false true v_i (.int .i64 1)) fun t13 => 
  J t13 w_3)) [(.int .i64 0)] w_2) w_1) w_1) w_1)
   (Q (.tuple #[]) w_1)) w_1) [(.int .i64 0)] w
theorem eq128 (v_b : Value) (Q : Value → World → Prop) (w : World) : semF Tryz.prog 128 [v_b] Q w = S128 v_b Q w := by kernel_rfl
theorem ref128 {v_b : Value} {Q : Value → World → Prop} {w : World} (h : S128 v_b Q w) : callS Tryz.prog 128 #[v_b] Q w :=
  callS_of mix (fun a w => Tryz.call128 a w) (by kernel_rfl) (by rw [eq128]; exact h)
-- (*commons/commonsbook.Book).putRevokes
def S129 (v_b : Value) (Q : Value → World → Prop) (w : World) : Prop :=
 lp 1 (fun J => fun v_i w_1 => ∀ _j : Fr, 
  pur Tryz.prog (nilV v_b) fun t7 => 
  pur Tryz.prog (Instr.fieldAt 51 t7 20) fun t8 => 
  rd Tryz.prog (Instr.loadAt 45 t8) (fun t9 => 
  pur Tryz.prog (Builtin.len_ #[45] 3 #[t9]) fun t10 => 
  pur Tryz.prog (binS .lss 3 false false v_i t10) fun t11 => 
  condS t11
   (pur Tryz.prog (nilV v_b) fun t16 => 
  pur Tryz.prog (Instr.fieldAt 51 t16 20) fun t17 => 
  rd Tryz.prog (Instr.loadAt 45 t17) (fun t18 => 
  pur Tryz.prog (Instr.indexAt 45 t18 v_i) fun t20 => 
  rd Tryz.prog (Instr.loadAt 232 t20) (fun t21 => 
  pur Tryz.prog (Builtin.len_ #[232] 3 #[t21]) fun t22 => 
  callS Tryz.prog 218 #[v_i, (.int .i64 0), t22] (fun t23 w_2 => 
  lp 1 (fun J_1 => fun v_k w_3 => ∀ _j : Fr, 
   pur Tryz.prog (Builtin.len_ #[232] 3 #[t23]) fun t26 => 
   pur Tryz.prog (binS .lss 3 false false v_k t26) fun t27 => 
   condS t27
    (pur Tryz.prog (nilV v_b) fun t31 => 
   pur Tryz.prog (Instr.fieldAt 51 t31 20) fun t32 => 
   rd Tryz.prog (Instr.loadAt 45 t32) (fun t33 => 
   pur Tryz.prog (Instr.indexAt 45 t33 v_i) fun t35 => 
   rd Tryz.prog (Instr.loadAt 232 t35) (fun t36 => 
   pur Tryz.prog (Instr.indexAt 232 t23 v_k) fun t40 => 
   rd Tryz.prog (Instr.loadAt 266 t40) (fun t41 => 
   pur Tryz.prog (Instr.indexAt 232 t36 v_k) fun t42 => 
   act Tryz.prog (thenU (Instr.storeAt 266 t42 t41)) (fun _ w_4 => 
   pur Tryz.prog (binS .add 3 false true v_k (.int .i64 1)) fun t29 => 
   J_1 t29 w_4) (World.drew w_3)) (World.drew w_3)) (World.drew w_3)) (World.drew w_3))
    (pur Tryz.prog (binS .add 3 false true v_i (.int .i64 1)) fun t13 => 
  J t13 w_3)) [(.int .i64 0)] w_2) w_1) w_1) w_1)
   (Q (.tuple #[]) w_1)) w_1) [(.int .i64 0)] w
theorem eq129 (v_b : Value) (Q : Value → World → Prop) (w : World) : semF Tryz.prog 129 [v_b] Q w = S129 v_b Q w := by kernel_rfl
theorem ref129 {v_b : Value} {Q : Value → World → Prop} {w : World} (h : S129 v_b Q w) : callS Tryz.prog 129 #[v_b] Q w :=
  callS_of mix (fun a w => Tryz.call129 a w) (by kernel_rfl) (by rw [eq129]; exact h)
-- (*commons/commonsbook.Book).putEntries
def S130 (v_b : Value) (Q : Value → World → Prop) (w : World) : Prop :=
 lp 1 (fun J => fun v_i w_1 => ∀ _j : Fr, 
  pur Tryz.prog (nilV v_b) fun t7 => 
  pur Tryz.prog (Instr.fieldAt 51 t7 22) fun t8 => 
  rd Tryz.prog (Instr.loadAt 46 t8) (fun t9 => 
  pur Tryz.prog (Builtin.len_ #[46] 3 #[t9]) fun t10 => 
  pur Tryz.prog (binS .lss 3 false false v_i t10) fun t11 => 
  condS t11
   (pur Tryz.prog (nilV v_b) fun t16 => 
  pur Tryz.prog (Instr.fieldAt 51 t16 22) fun t17 => 
  rd Tryz.prog (Instr.loadAt 46 t17) (fun t18 => 
  pur Tryz.prog (Instr.indexAt 46 t18 v_i) fun t20 => 
  rd Tryz.prog (Instr.loadAt 234 t20) (fun t21 => 
  pur Tryz.prog (Builtin.len_ #[234] 3 #[t21]) fun t22 => 
  callS Tryz.prog 219 #[v_i, (.int .i64 0), t22] (fun t23 w_2 => 
  lp 1 (fun J_1 => fun v_k w_3 => ∀ _j : Fr, 
   pur Tryz.prog (Builtin.len_ #[234] 3 #[t23]) fun t26 => 
   pur Tryz.prog (binS .lss 3 false false v_k t26) fun t27 => 
   condS t27
    (pur Tryz.prog (nilV v_b) fun t31 => 
   pur Tryz.prog (Instr.fieldAt 51 t31 22) fun t32 => 
   rd Tryz.prog (Instr.loadAt 46 t32) (fun t33 => 
   pur Tryz.prog (Instr.indexAt 46 t33 v_i) fun t35 => 
   rd Tryz.prog (Instr.loadAt 234 t35) (fun t36 => 
   pur Tryz.prog (Instr.indexAt 234 t23 v_k) fun t40 => 
   rd Tryz.prog (Instr.loadAt 269 t40) (fun t41 => 
   pur Tryz.prog (Instr.indexAt 234 t36 v_k) fun t42 => 
   act Tryz.prog (thenU (Instr.storeAt 269 t42 t41)) (fun _ w_4 => 
   pur Tryz.prog (binS .add 3 false true v_k (.int .i64 1)) fun t29 => 
   J_1 t29 w_4) (World.drew w_3)) (World.drew w_3)) (World.drew w_3)) (World.drew w_3))
    (pur Tryz.prog (binS .add 3 false true v_i (.int .i64 1)) fun t13 => 
  J t13 w_3)) [(.int .i64 0)] w_2) w_1) w_1) w_1)
   (Q (.tuple #[]) w_1)) w_1) [(.int .i64 0)] w
theorem eq130 (v_b : Value) (Q : Value → World → Prop) (w : World) : semF Tryz.prog 130 [v_b] Q w = S130 v_b Q w := by kernel_rfl
theorem ref130 {v_b : Value} {Q : Value → World → Prop} {w : World} (h : S130 v_b Q w) : callS Tryz.prog 130 #[v_b] Q w :=
  callS_of mix (fun a w => Tryz.call130 a w) (by kernel_rfl) (by rw [eq130]; exact h)
-- (*commons/commonsbook.Book).putParts
def S131 (v_b : Value) (Q : Value → World → Prop) (w : World) : Prop :=
 lp 1 (fun J => fun v_i w_1 => ∀ _j : Fr, 
  pur Tryz.prog (nilV v_b) fun t7 => 
  pur Tryz.prog (Instr.fieldAt 51 t7 24) fun t8 => 
  rd Tryz.prog (Instr.loadAt 47 t8) (fun t9 => 
  pur Tryz.prog (Builtin.len_ #[47] 3 #[t9]) fun t10 => 
  pur Tryz.prog (binS .lss 3 false false v_i t10) fun t11 => 
  condS t11
   (pur Tryz.prog (nilV v_b) fun t16 => 
  pur Tryz.prog (Instr.fieldAt 51 t16 24) fun t17 => 
  rd Tryz.prog (Instr.loadAt 47 t17) (fun t18 => 
  pur Tryz.prog (Instr.indexAt 47 t18 v_i) fun t20 => 
  rd Tryz.prog (Instr.loadAt 93 t20) (fun t21 => 
  pur Tryz.prog (Builtin.len_ #[93] 3 #[t21]) fun t22 => 
  callS Tryz.prog 220 #[v_i, (.int .i64 0), t22] (fun t23 w_2 => 
  lp 1 (fun J_1 => fun v_k w_3 => ∀ _j : Fr, 
   pur Tryz.prog (Builtin.len_ #[93] 3 #[t23]) fun t26 => 
   pur Tryz.prog (binS .lss 3 false false v_k t26) fun t27 => 
   condS t27
    (pur Tryz.prog (nilV v_b) fun t31 => 
   pur Tryz.prog (Instr.fieldAt 51 t31 24) fun t32 => 
   rd Tryz.prog (Instr.loadAt 47 t32) (fun t33 => 
   pur Tryz.prog (Instr.indexAt 47 t33 v_i) fun t35 => 
   rd Tryz.prog (Instr.loadAt 93 t35) (fun t36 => 
   pur Tryz.prog (Instr.indexAt 93 t23 v_k) fun t40 => 
   rd Tryz.prog (Instr.loadAt 201 t40) (fun t41 => 
   pur Tryz.prog (Instr.indexAt 93 t36 v_k) fun t42 => 
   act Tryz.prog (thenU (Instr.storeAt 201 t42 t41)) (fun _ w_4 => 
   pur Tryz.prog (binS .add 3 false true v_k (.int .i64 1)) fun t29 => 
   J_1 t29 w_4) (World.drew w_3)) (World.drew w_3)) (World.drew w_3)) (World.drew w_3))
    (pur Tryz.prog (binS .add 3 false true v_i (.int .i64 1)) fun t13 => 
  J t13 w_3)) [(.int .i64 0)] w_2) w_1) w_1) w_1)
   (Q (.tuple #[]) w_1)) w_1) [(.int .i64 0)] w
theorem eq131 (v_b : Value) (Q : Value → World → Prop) (w : World) : semF Tryz.prog 131 [v_b] Q w = S131 v_b Q w := by kernel_rfl
theorem ref131 {v_b : Value} {Q : Value → World → Prop} {w : World} (h : S131 v_b Q w) : callS Tryz.prog 131 #[v_b] Q w :=
  callS_of mix (fun a w => Tryz.call131 a w) (by kernel_rfl) (by rw [eq131]; exact h)
-- (*commons/commonsbook.Book).growTexts
def S132 (v_b : Value) (Q : Value → World → Prop) (w : World) : Prop :=
 lp 2 (fun J => fun v_out v_i w_1 => ∀ _j : Fr, 
  pur Tryz.prog (nilV v_b) fun t9 => 
  pur Tryz.prog (Instr.fieldAt 51 t9 0) fun t10 => 
  rd Tryz.prog (Instr.loadAt 35 t10) (fun t11 => 
  pur Tryz.prog (Builtin.len_ #[35] 3 #[t11]) fun t12 => 
  pur Tryz.prog (binS .lss 3 false false v_i t12) fun t13 => 
  condS t13
   (pur Tryz.prog (nilV v_b) fun t17 => 
  pur Tryz.prog (Instr.fieldAt 51 t17 0) fun t18 => 
  rd Tryz.prog (Instr.loadAt 35 t18) (fun t19 => 
  pur Tryz.prog (Instr.indexAt 35 t19 v_i) fun t21 => 
  rd Tryz.prog (Instr.loadAt 220 t21) (fun t22 => 
  lp 2 (fun J_1 => fun v_l v_n w_2 => ∀ _j : Fr, 
   pur Tryz.prog (binS .lss 3 false true v_n (.int .i64 12)) fun t24 => 
   condS t24
    (pur Tryz.prog (Builtin.len_ #[220] 3 #[v_l]) fun t30 => 
   callS Tryz.prog 209 #[v_i, t30, (.int .i64 1)] (fun t31 w_3 => 
   act Tryz.prog (Builtin.append_ #[220, 220] 220 #[v_l, t31]) (fun t32 w_4 => 
   pur Tryz.prog (binS .add 3 false true v_n (.int .i64 1)) fun t26 => 
   J_1 t32 t26 w_4) w_3) w_2)
    (pur Tryz.prog (Builtin.len_ #[220] 3 #[v_l]) fun t37 => 
  callS Tryz.prog 209 #[v_i, t37, (.int .i64 60)] (fun t38 w_5 => 
  act Tryz.prog (Builtin.append_ #[220, 220] 220 #[v_l, t38]) (fun t39 w_6 => 
  act Tryz.prog (Instr.buildSlice 35 1 #[(0, t39)]) (fun t40 w_7 => 
  act Tryz.prog (Builtin.append_ #[35, 35] 35 #[v_out, t40]) (fun t41 w_8 => 
  pur Tryz.prog (binS .add 3 false true v_i (.int .i64 1)) fun t15 => 
  J t41 t15 w_8) w_7) w_6) w_5) w_2)) [t22, (.int .i64 0)] w_1) w_1) w_1)
   (Q v_out w_1)) w_1) [(.slice none 0 0), (.int .i64 0)] w
theorem eq132 (v_b : Value) (Q : Value → World → Prop) (w : World) : semF Tryz.prog 132 [v_b] Q w = S132 v_b Q w := by kernel_rfl
theorem ref132 {v_b : Value} {Q : Value → World → Prop} {w : World} (h : S132 v_b Q w) : callS Tryz.prog 132 #[v_b] Q w :=
  callS_of mix (fun a w => Tryz.call132 a w) (by kernel_rfl) (by rw [eq132]; exact h)
-- (*commons/commonsbook.Book).growInts
def S133 (v_b : Value) (Q : Value → World → Prop) (w : World) : Prop :=
 lp 2 (fun J => fun v_out v_i w_1 => ∀ _j : Fr, 
  pur Tryz.prog (nilV v_b) fun t9 => 
  pur Tryz.prog (Instr.fieldAt 51 t9 2) fun t10 => 
  rd Tryz.prog (Instr.loadAt 36 t10) (fun t11 => 
  pur Tryz.prog (Builtin.len_ #[36] 3 #[t11]) fun t12 => 
  pur Tryz.prog (binS .lss 3 false false v_i t12) fun t13 => 
  condS t13
   (pur Tryz.prog (nilV v_b) fun t17 => 
  pur Tryz.prog (Instr.fieldAt 51 t17 2) fun t18 => 
  rd Tryz.prog (Instr.loadAt 36 t18) (fun t19 => 
  pur Tryz.prog (Instr.indexAt 36 t19 v_i) fun t21 => 
  rd Tryz.prog (Instr.loadAt 64 t21) (fun t22 => 
  lp 2 (fun J_1 => fun v_l v_n w_2 => ∀ _j : Fr, 
   pur Tryz.prog (binS .lss 3 false true v_n (.int .i64 12)) fun t24 => 
   condS t24
    (pur Tryz.prog (Builtin.len_ #[64] 3 #[v_l]) fun t30 => 
   callS Tryz.prog 210 #[v_i, t30, (.int .i64 1)] (fun t31 w_3 => 
   act Tryz.prog (Builtin.append_ #[64, 64] 64 #[v_l, t31]) (fun t32 w_4 => 
   pur Tryz.prog (binS .add 3 false true v_n (.int .i64 1)) fun t26 => 
   J_1 t32 t26 w_4) w_3) w_2)
    (pur Tryz.prog (Builtin.len_ #[64] 3 #[v_l]) fun t37 => 
  callS Tryz.prog 210 #[v_i, t37, (.int .i64 60)] (fun t38 w_5 => 
  act Tryz.prog (Builtin.append_ #[64, 64] 64 #[v_l, t38]) (fun t39 w_6 => 
  act Tryz.prog (Instr.buildSlice 36 1 #[(0, t39)]) (fun t40 w_7 => 
  act Tryz.prog (Builtin.append_ #[36, 36] 36 #[v_out, t40]) (fun t41 w_8 => 
  pur Tryz.prog (binS .add 3 false true v_i (.int .i64 1)) fun t15 => 
  J t41 t15 w_8) w_7) w_6) w_5) w_2)) [t22, (.int .i64 0)] w_1) w_1) w_1)
   (Q v_out w_1)) w_1) [(.slice none 0 0), (.int .i64 0)] w
theorem eq133 (v_b : Value) (Q : Value → World → Prop) (w : World) : semF Tryz.prog 133 [v_b] Q w = S133 v_b Q w := by kernel_rfl
theorem ref133 {v_b : Value} {Q : Value → World → Prop} {w : World} (h : S133 v_b Q w) : callS Tryz.prog 133 #[v_b] Q w :=
  callS_of mix (fun a w => Tryz.call133 a w) (by kernel_rfl) (by rw [eq133]; exact h)
-- (*commons/commonsbook.Book).growNums
def S134 (v_b : Value) (Q : Value → World → Prop) (w : World) : Prop :=
 lp 2 (fun J => fun v_out v_i w_1 => ∀ _j : Fr, 
  pur Tryz.prog (nilV v_b) fun t9 => 
  pur Tryz.prog (Instr.fieldAt 51 t9 4) fun t10 => 
  rd Tryz.prog (Instr.loadAt 37 t10) (fun t11 => 
  pur Tryz.prog (Builtin.len_ #[37] 3 #[t11]) fun t12 => 
  pur Tryz.prog (binS .lss 3 false false v_i t12) fun t13 => 
  condS t13
   (pur Tryz.prog (nilV v_b) fun t17 => 
  pur Tryz.prog (Instr.fieldAt 51 t17 4) fun t18 => 
  rd Tryz.prog (Instr.loadAt 37 t18) (fun t19 => 
  pur Tryz.prog (Instr.indexAt 37 t19 v_i) fun t21 => 
  rd Tryz.prog (Instr.loadAt 222 t21) (fun t22 => 
  lp 2 (fun J_1 => fun v_l v_n w_2 => ∀ _j : Fr, 
   pur Tryz.prog (binS .lss 3 false true v_n (.int .i64 12)) fun t24 => 
   condS t24
    (pur Tryz.prog (Builtin.len_ #[222] 3 #[v_l]) fun t30 => 
   callS Tryz.prog 211 #[v_i, t30, (.int .i64 1)] (fun t31 w_3 => 
   act Tryz.prog (Builtin.append_ #[222, 222] 222 #[v_l, t31]) (fun t32 w_4 => 
   pur Tryz.prog (binS .add 3 false true v_n (.int .i64 1)) fun t26 => 
   J_1 t32 t26 w_4) w_3) w_2)
    (pur Tryz.prog (Builtin.len_ #[222] 3 #[v_l]) fun t37 => 
  callS Tryz.prog 211 #[v_i, t37, (.int .i64 60)] (fun t38 w_5 => 
  act Tryz.prog (Builtin.append_ #[222, 222] 222 #[v_l, t38]) (fun t39 w_6 => 
  act Tryz.prog (Instr.buildSlice 37 1 #[(0, t39)]) (fun t40 w_7 => 
  act Tryz.prog (Builtin.append_ #[37, 37] 37 #[v_out, t40]) (fun t41 w_8 => 
  pur Tryz.prog (binS .add 3 false true v_i (.int .i64 1)) fun t15 => 
  J t41 t15 w_8) w_7) w_6) w_5) w_2)) [t22, (.int .i64 0)] w_1) w_1) w_1)
   (Q v_out w_1)) w_1) [(.slice none 0 0), (.int .i64 0)] w
theorem eq134 (v_b : Value) (Q : Value → World → Prop) (w : World) : semF Tryz.prog 134 [v_b] Q w = S134 v_b Q w := by kernel_rfl
theorem ref134 {v_b : Value} {Q : Value → World → Prop} {w : World} (h : S134 v_b Q w) : callS Tryz.prog 134 #[v_b] Q w :=
  callS_of mix (fun a w => Tryz.call134 a w) (by kernel_rfl) (by rw [eq134]; exact h)
-- (*commons/commonsbook.Book).growSpans
def S135 (v_b : Value) (Q : Value → World → Prop) (w : World) : Prop :=
 lp 2 (fun J => fun v_out v_i w_1 => ∀ _j : Fr, 
  pur Tryz.prog (nilV v_b) fun t9 => 
  pur Tryz.prog (Instr.fieldAt 51 t9 6) fun t10 => 
  rd Tryz.prog (Instr.loadAt 38 t10) (fun t11 => 
  pur Tryz.prog (Builtin.len_ #[38] 3 #[t11]) fun t12 => 
  pur Tryz.prog (binS .lss 3 false false v_i t12) fun t13 => 
  condS t13
   (pur Tryz.prog (nilV v_b) fun t17 => 
  pur Tryz.prog (Instr.fieldAt 51 t17 6) fun t18 => 
  rd Tryz.prog (Instr.loadAt 38 t18) (fun t19 => 
  pur Tryz.prog (Instr.indexAt 38 t19 v_i) fun t21 => 
  rd Tryz.prog (Instr.loadAt 70 t21) (fun t22 => 
  lp 2 (fun J_1 => fun v_l v_n w_2 => ∀ _j : Fr, 
   pur Tryz.prog (binS .lss 3 false true v_n (.int .i64 12)) fun t24 => 
   condS t24
    (pur Tryz.prog (Builtin.len_ #[70] 3 #[v_l]) fun t30 => 
   callS Tryz.prog 212 #[v_i, t30, (.int .i64 1)] (fun t31 w_3 => 
   act Tryz.prog (Builtin.append_ #[70, 70] 70 #[v_l, t31]) (fun t32 w_4 => 
   pur Tryz.prog (binS .add 3 false true v_n (.int .i64 1)) fun t26 => 
   J_1 t32 t26 w_4) w_3) w_2)
    (pur Tryz.prog (Builtin.len_ #[70] 3 #[v_l]) fun t37 => 
  callS Tryz.prog 212 #[v_i, t37, (.int .i64 60)] (fun t38 w_5 => 
  act Tryz.prog (Builtin.append_ #[70, 70] 70 #[v_l, t38]) (fun t39 w_6 => 
  act Tryz.prog (Instr.buildSlice 38 1 #[(0, t39)]) (fun t40 w_7 => 
  act Tryz.prog (Builtin.append_ #[38, 38] 38 #[v_out, t40]) (fun t41 w_8 => 
  pur Tryz.prog (binS .add 3 false true v_i (.int .i64 1)) fun t15 => 
  J t41 t15 w_8) w_7) w_6) w_5) w_2)) [t22, (.int .i64 0)] w_1) w_1) w_1)
   (Q v_out w_1)) w_1) [(.slice none 0 0), (.int .i64 0)] w
theorem eq135 (v_b : Value) (Q : Value → World → Prop) (w : World) : semF Tryz.prog 135 [v_b] Q w = S135 v_b Q w := by kernel_rfl
theorem ref135 {v_b : Value} {Q : Value → World → Prop} {w : World} (h : S135 v_b Q w) : callS Tryz.prog 135 #[v_b] Q w :=
  callS_of mix (fun a w => Tryz.call135 a w) (by kernel_rfl) (by rw [eq135]; exact h)
-- (*commons/commonsbook.Book).growLocks
def S136 (v_b : Value) (Q : Value → World → Prop) (w : World) : Prop :=
 lp 2 (fun J => fun v_out v_i w_1 => ∀ _j : Fr, 
  pur Tryz.prog (nilV v_b) fun t9 => 
  pur Tryz.prog (Instr.fieldAt 51 t9 8) fun t10 => 
  rd Tryz.prog (Instr.loadAt 39 t10) (fun t11 => 
  pur Tryz.prog (Builtin.len_ #[39] 3 #[t11]) fun t12 => 
  pur Tryz.prog (binS .lss 3 false false v_i t12) fun t13 => 
  condS t13
   (pur Tryz.prog (nilV v_b) fun t17 => 
  pur Tryz.prog (Instr.fieldAt 51 t17 8) fun t18 => 
  rd Tryz.prog (Instr.loadAt 39 t18) (fun t19 => 
  pur Tryz.prog (Instr.indexAt 39 t19 v_i) fun t21 => 
  rd Tryz.prog (Instr.loadAt 109 t21) (fun t22 => 
  lp 2 (fun J_1 => fun v_l v_n w_2 => ∀ _j : Fr, 
   pur Tryz.prog (binS .lss 3 false true v_n (.int .i64 12)) fun t24 => 
   condS t24
    (pur Tryz.prog (Builtin.len_ #[109] 3 #[v_l]) fun t30 => 
   callS Tryz.prog 213 #[v_i, t30, (.int .i64 1)] (fun t31 w_3 => 
   act Tryz.prog (Builtin.append_ #[109, 109] 109 #[v_l, t31]) (fun t32 w_4 => 
   pur Tryz.prog (binS .add 3 false true v_n (.int .i64 1)) fun t26 => 
   J_1 t32 t26 w_4) w_3) w_2)
    (pur Tryz.prog (Builtin.len_ #[109] 3 #[v_l]) fun t37 => 
  callS Tryz.prog 213 #[v_i, t37, (.int .i64 60)] (fun t38 w_5 => 
  act Tryz.prog (Builtin.append_ #[109, 109] 109 #[v_l, t38]) (fun t39 w_6 => 
  act Tryz.prog (Instr.buildSlice 39 1 #[(0, t39)]) (fun t40 w_7 => 
  act Tryz.prog (Builtin.append_ #[39, 39] 39 #[v_out, t40]) (fun t41 w_8 => 
  pur Tryz.prog (binS .add 3 false true v_i (.int .i64 1)) fun t15 => 
  J t41 t15 w_8) w_7) w_6) w_5) w_2)) [t22, (.int .i64 0)] w_1) w_1) w_1)
   (Q v_out w_1)) w_1) [(.slice none 0 0), (.int .i64 0)] w
theorem eq136 (v_b : Value) (Q : Value → World → Prop) (w : World) : semF Tryz.prog 136 [v_b] Q w = S136 v_b Q w := by kernel_rfl
theorem ref136 {v_b : Value} {Q : Value → World → Prop} {w : World} (h : S136 v_b Q w) : callS Tryz.prog 136 #[v_b] Q w :=
  callS_of mix (fun a w => Tryz.call136 a w) (by kernel_rfl) (by rw [eq136]; exact h)
-- (*commons/commonsbook.Book).growImages
def S137 (v_b : Value) (Q : Value → World → Prop) (w : World) : Prop :=
 lp 2 (fun J => fun v_out v_i w_1 => ∀ _j : Fr, 
  pur Tryz.prog (nilV v_b) fun t9 => 
  pur Tryz.prog (Instr.fieldAt 51 t9 10) fun t10 => 
  rd Tryz.prog (Instr.loadAt 40 t10) (fun t11 => 
  pur Tryz.prog (Builtin.len_ #[40] 3 #[t11]) fun t12 => 
  pur Tryz.prog (binS .lss 3 false false v_i t12) fun t13 => 
  condS t13
   (pur Tryz.prog (nilV v_b) fun t17 => 
  pur Tryz.prog (Instr.fieldAt 51 t17 10) fun t18 => 
  rd Tryz.prog (Instr.loadAt 40 t18) (fun t19 => 
  pur Tryz.prog (Instr.indexAt 40 t19 v_i) fun t21 => 
  rd Tryz.prog (Instr.loadAt 131 t21) (fun t22 => 
  lp 2 (fun J_1 => fun v_l v_n w_2 => ∀ _j : Fr, 
   pur Tryz.prog (binS .lss 3 false true v_n (.int .i64 12)) fun t24 => 
   condS t24
    (pur Tryz.prog (Builtin.len_ #[131] 3 #[v_l]) fun t30 => 
   callS Tryz.prog 214 #[v_i, t30, (.int .i64 1)] (fun t31 w_3 => 
   act Tryz.prog (Builtin.append_ #[131, 131] 131 #[v_l, t31]) (fun t32 w_4 => 
   pur Tryz.prog (binS .add 3 false true v_n (.int .i64 1)) fun t26 => 
   J_1 t32 t26 w_4) w_3) w_2)
    (pur Tryz.prog (Builtin.len_ #[131] 3 #[v_l]) fun t37 => 
  callS Tryz.prog 214 #[v_i, t37, (.int .i64 60)] (fun t38 w_5 => 
  act Tryz.prog (Builtin.append_ #[131, 131] 131 #[v_l, t38]) (fun t39 w_6 => 
  act Tryz.prog (Instr.buildSlice 40 1 #[(0, t39)]) (fun t40 w_7 => 
  act Tryz.prog (Builtin.append_ #[40, 40] 40 #[v_out, t40]) (fun t41 w_8 => 
  pur Tryz.prog (binS .add 3 false true v_i (.int .i64 1)) fun t15 => 
  J t41 t15 w_8) w_7) w_6) w_5) w_2)) [t22, (.int .i64 0)] w_1) w_1) w_1)
   (Q v_out w_1)) w_1) [(.slice none 0 0), (.int .i64 0)] w
theorem eq137 (v_b : Value) (Q : Value → World → Prop) (w : World) : semF Tryz.prog 137 [v_b] Q w = S137 v_b Q w := by kernel_rfl
theorem ref137 {v_b : Value} {Q : Value → World → Prop} {w : World} (h : S137 v_b Q w) : callS Tryz.prog 137 #[v_b] Q w :=
  callS_of mix (fun a w => Tryz.call137 a w) (by kernel_rfl) (by rw [eq137]; exact h)
-- (*commons/commonsbook.Book).growRecords
def S138 (v_b : Value) (Q : Value → World → Prop) (w : World) : Prop :=
 lp 2 (fun J => fun v_out v_i w_1 => ∀ _j : Fr, 
  pur Tryz.prog (nilV v_b) fun t9 => 
  pur Tryz.prog (Instr.fieldAt 51 t9 12) fun t10 => 
  rd Tryz.prog (Instr.loadAt 41 t10) (fun t11 => 
  pur Tryz.prog (Builtin.len_ #[41] 3 #[t11]) fun t12 => 
  pur Tryz.prog (binS .lss 3 false false v_i t12) fun t13 => 
  condS t13
   (pur Tryz.prog (nilV v_b) fun t17 => 
  pur Tryz.prog (Instr.fieldAt 51 t17 12) fun t18 => 
  rd Tryz.prog (Instr.loadAt 41 t18) (fun t19 => 
  pur Tryz.prog (Instr.indexAt 41 t19 v_i) fun t21 => 
  rd Tryz.prog (Instr.loadAt 224 t21) (fun t22 => 
  lp 2 (fun J_1 => fun v_l v_n w_2 => ∀ _j : Fr, 
   pur Tryz.prog (binS .lss 3 false true v_n (.int .i64 12)) fun t24 => 
   condS t24
    (pur Tryz.prog (Builtin.len_ #[224] 3 #[v_l]) fun t30 => 
   callS Tryz.prog 206 #[v_i, t30, (.int .i64 1)] (fun t31 w_3 => 
   act Tryz.prog (Builtin.append_ #[224, 224] 224 #[v_l, t31]) (fun t32 w_4 => 
   pur Tryz.prog (binS .add 3 false true v_n (.int .i64 1)) fun t26 => 
   J_1 t32 t26 w_4) w_3) w_2)
    (pur Tryz.prog (Builtin.len_ #[224] 3 #[v_l]) fun t37 => 
  callS Tryz.prog 206 #[v_i, t37, (.int .i64 60)] (fun t38 w_5 => 
  act Tryz.prog (Builtin.append_ #[224, 224] 224 #[v_l, t38]) (fun t39 w_6 => 
  act Tryz.prog (Instr.buildSlice 41 1 #[(0, t39)]) (fun t40 w_7 => 
  act Tryz.prog (Builtin.append_ #[41, 41] 41 #[v_out, t40]) (fun t41 w_8 => 
  pur Tryz.prog (binS .add 3 false true v_i (.int .i64 1)) fun t15 => 
  J t41 t15 w_8) w_7) w_6) w_5) w_2)) [t22, (.int .i64 0)] w_1) w_1) w_1)
   (Q v_out w_1)) w_1) [(.slice none 0 0), (.int .i64 0)] w
theorem eq138 (v_b : Value) (Q : Value → World → Prop) (w : World) : semF Tryz.prog 138 [v_b] Q w = S138 v_b Q w := by kernel_rfl
theorem ref138 {v_b : Value} {Q : Value → World → Prop} {w : World} (h : S138 v_b Q w) : callS Tryz.prog 138 #[v_b] Q w :=
  callS_of mix (fun a w => Tryz.call138 a w) (by kernel_rfl) (by rw [eq138]; exact h)
-- (*commons/commonsbook.Book).growPackets
def S139 (v_b : Value) (Q : Value → World → Prop) (w : World) : Prop :=
 lp 2 (fun J => fun v_out v_i w_1 => ∀ _j : Fr, 
  pur Tryz.prog (nilV v_b) fun t9 => 
  pur Tryz.prog (Instr.fieldAt 51 t9 14) fun t10 => 
  rd Tryz.prog (Instr.loadAt 42 t10) (fun t11 => 
  pur Tryz.prog (Builtin.len_ #[42] 3 #[t11]) fun t12 => 
  pur Tryz.prog (binS .lss 3 false false v_i t12) fun t13 => 
  condS t13
   (pur Tryz.prog (nilV v_b) fun t17 => 
  pur Tryz.prog (Instr.fieldAt 51 t17 14) fun t18 => 
  rd Tryz.prog (Instr.loadAt 42 t18) (fun t19 => 
  pur Tryz.prog (Instr.indexAt 42 t19 v_i) fun t21 => 
  rd Tryz.prog (Instr.loadAt 226 t21) (fun t22 => 
  lp 2 (fun J_1 => fun v_l v_n w_2 => ∀ _j : Fr, 
   pur Tryz.prog (binS .lss 3 false true v_n (.int .i64 12)) fun t24 => 
   condS t24
    (pur Tryz.prog (Builtin.len_ #[226] 3 #[v_l]) fun t30 => 
   callS Tryz.prog 215 #[v_i, t30, (.int .i64 1)] (fun t31 w_3 => 
   act Tryz.prog (Builtin.append_ #[226, 226] 226 #[v_l, t31]) (fun t32 w_4 => 
   pur Tryz.prog (binS .add 3 false true v_n (.int .i64 1)) fun t26 => 
   J_1 t32 t26 w_4) w_3) w_2)
    (pur Tryz.prog (Builtin.len_ #[226] 3 #[v_l]) fun t37 => 
  callS Tryz.prog 215 #[v_i, t37, (.int .i64 60)] (fun t38 w_5 => 
  act Tryz.prog (Builtin.append_ #[226, 226] 226 #[v_l, t38]) (fun t39 w_6 => 
  act Tryz.prog (Instr.buildSlice 42 1 #[(0, t39)]) (fun t40 w_7 => 
  act Tryz.prog (Builtin.append_ #[42, 42] 42 #[v_out, t40]) (fun t41 w_8 => 
  pur Tryz.prog (binS .add 3 false true v_i (.int .i64 1)) fun t15 => 
  J t41 t15 w_8) w_7) w_6) w_5) w_2)) [t22, (.int .i64 0)] w_1) w_1) w_1)
   (Q v_out w_1)) w_1) [(.slice none 0 0), (.int .i64 0)] w
theorem eq139 (v_b : Value) (Q : Value → World → Prop) (w : World) : semF Tryz.prog 139 [v_b] Q w = S139 v_b Q w := by kernel_rfl
theorem ref139 {v_b : Value} {Q : Value → World → Prop} {w : World} (h : S139 v_b Q w) : callS Tryz.prog 139 #[v_b] Q w :=
  callS_of mix (fun a w => Tryz.call139 a w) (by kernel_rfl) (by rw [eq139]; exact h)
-- (*commons/commonsbook.Book).growFrames
def S140 (v_b : Value) (Q : Value → World → Prop) (w : World) : Prop :=
 lp 2 (fun J => fun v_out v_i w_1 => ∀ _j : Fr, 
  pur Tryz.prog (nilV v_b) fun t9 => 
  pur Tryz.prog (Instr.fieldAt 51 t9 16) fun t10 => 
  rd Tryz.prog (Instr.loadAt 43 t10) (fun t11 => 
  pur Tryz.prog (Builtin.len_ #[43] 3 #[t11]) fun t12 => 
  pur Tryz.prog (binS .lss 3 false false v_i t12) fun t13 => 
  condS t13
   (pur Tryz.prog (nilV v_b) fun t17 => 
  pur Tryz.prog (Instr.fieldAt 51 t17 16) fun t18 => 
  rd Tryz.prog (Instr.loadAt 43 t18) (fun t19 => 
  pur Tryz.prog (Instr.indexAt 43 t19 v_i) fun t21 => 
  rd Tryz.prog (Instr.loadAt 228 t21) (fun t22 => 
  lp 2 (fun J_1 => fun v_l v_n w_2 => ∀ _j : Fr, 
   pur Tryz.prog (binS .lss 3 false true v_n (.int .i64 12)) fun t24 => 
   condS t24
    (pur Tryz.prog (Builtin.len_ #[228] 3 #[v_l]) fun t30 => 
   callS Tryz.prog 216 #[v_i, t30, (.int .i64 1)] (fun t31 w_3 => 
   act Tryz.prog (Builtin.append_ #[228, 228] 228 #[v_l, t31]) (fun t32 w_4 => 
   pur Tryz.prog (binS .add 3 false true v_n (.int .i64 1)) fun t26 => 
   J_1 t32 t26 w_4) w_3) w_2)
    (pur Tryz.prog (Builtin.len_ #[228] 3 #[v_l]) fun t37 => 
  callS Tryz.prog 216 #[v_i, t37, (.int .i64 60)] (fun t38 w_5 => 
  act Tryz.prog (Builtin.append_ #[228, 228] 228 #[v_l, t38]) (fun t39 w_6 => 
  act Tryz.prog (Instr.buildSlice 43 1 #[(0, t39)]) (fun t40 w_7 => 
  act Tryz.prog (Builtin.append_ #[43, 43] 43 #[v_out, t40]) (fun t41 w_8 => 
  pur Tryz.prog (binS .add 3 false true v_i (.int .i64 1)) fun t15 => 
  J t41 t15 w_8) w_7) w_6) w_5) w_2)) [t22, (.int .i64 0)] w_1) w_1) w_1)
   (Q v_out w_1)) w_1) [(.slice none 0 0), (.int .i64 0)] w
theorem eq140 (v_b : Value) (Q : Value → World → Prop) (w : World) : semF Tryz.prog 140 [v_b] Q w = S140 v_b Q w := by kernel_rfl
theorem ref140 {v_b : Value} {Q : Value → World → Prop} {w : World} (h : S140 v_b Q w) : callS Tryz.prog 140 #[v_b] Q w :=
  callS_of mix (fun a w => Tryz.call140 a w) (by kernel_rfl) (by rw [eq140]; exact h)
-- (*commons/commonsbook.Book).growWaits
def S141 (v_b : Value) (Q : Value → World → Prop) (w : World) : Prop :=
 lp 2 (fun J => fun v_out v_i w_1 => ∀ _j : Fr, 
  pur Tryz.prog (nilV v_b) fun t9 => 
  pur Tryz.prog (Instr.fieldAt 51 t9 18) fun t10 => 
  rd Tryz.prog (Instr.loadAt 44 t10) (fun t11 => 
  pur Tryz.prog (Builtin.len_ #[44] 3 #[t11]) fun t12 => 
  pur Tryz.prog (binS .lss 3 false false v_i t12) fun t13 => 
  condS t13
   (pur Tryz.prog (nilV v_b) fun t17 => 
  pur Tryz.prog (Instr.fieldAt 51 t17 18) fun t18 => 
  rd Tryz.prog (Instr.loadAt 44 t18) (fun t19 => 
  pur Tryz.prog (Instr.indexAt 44 t19 v_i) fun t21 => 
  rd Tryz.prog (Instr.loadAt 230 t21) (fun t22 => 
  lp 2 (fun J_1 => fun v_l v_n w_2 => ∀ _j : Fr, 
   pur Tryz.prog (binS .lss 3 false true v_n (.int .i64 12)) fun t24 => 
   condS t24
    (pur Tryz.prog (Builtin.len_ #[230] 3 #[v_l]) fun t30 => 
   callS Tryz.prog 217 #[v_i, t30, (.int .i64 1)] (fun t31 w_3 => 
   act Tryz.prog (Builtin.append_ #[230, 230] 230 #[v_l, t31]) (fun t32 w_4 => 
   pur Tryz.prog (binS .add 3 false true v_n (.int .i64 1)) fun t26 => 
   J_1 t32 t26 w_4) w_3) w_2)
    (pur Tryz.prog (Builtin.len_ #[230] 3 #[v_l]) fun t37 => 
  callS Tryz.prog 217 #[v_i, t37, (.int .i64 60)] (fun t38 w_5 => 
  act Tryz.prog (Builtin.append_ #[230, 230] 230 #[v_l, t38]) (fun t39 w_6 => 
  act Tryz.prog (Instr.buildSlice 44 1 #[(0, t39)]) (fun t40 w_7 => 
  act Tryz.prog (Builtin.append_ #[44, 44] 44 #[v_out, t40]) (fun t41 w_8 => 
  pur Tryz.prog (binS .add 3 false true v_i (.int .i64 1)) fun t15 => 
  J t41 t15 w_8) w_7) w_6) w_5) w_2)) [t22, (.int .i64 0)] w_1) w_1) w_1)
   (Q v_out w_1)) w_1) [(.slice none 0 0), (.int .i64 0)] w
theorem eq141 (v_b : Value) (Q : Value → World → Prop) (w : World) : semF Tryz.prog 141 [v_b] Q w = S141 v_b Q w := by kernel_rfl
theorem ref141 {v_b : Value} {Q : Value → World → Prop} {w : World} (h : S141 v_b Q w) : callS Tryz.prog 141 #[v_b] Q w :=
  callS_of mix (fun a w => Tryz.call141 a w) (by kernel_rfl) (by rw [eq141]; exact h)
-- (*commons/commonsbook.Book).growRevokes
def S142 (v_b : Value) (Q : Value → World → Prop) (w : World) : Prop :=
 lp 2 (fun J => fun v_out v_i w_1 => ∀ _j : Fr, 
  pur Tryz.prog (nilV v_b) fun t9 => 
  pur Tryz.prog (Instr.fieldAt 51 t9 20) fun t10 => 
  rd Tryz.prog (Instr.loadAt 45 t10) (fun t11 => 
  pur Tryz.prog (Builtin.len_ #[45] 3 #[t11]) fun t12 => 
  pur Tryz.prog (binS .lss 3 false false v_i t12) fun t13 => 
  condS t13
   (pur Tryz.prog (nilV v_b) fun t17 => 
  pur Tryz.prog (Instr.fieldAt 51 t17 20) fun t18 => 
  rd Tryz.prog (Instr.loadAt 45 t18) (fun t19 => 
  pur Tryz.prog (Instr.indexAt 45 t19 v_i) fun t21 => 
  rd Tryz.prog (Instr.loadAt 232 t21) (fun t22 => 
  lp 2 (fun J_1 => fun v_l v_n w_2 => ∀ _j : Fr, 
   pur Tryz.prog (binS .lss 3 false true v_n (.int .i64 12)) fun t24 => 
   condS t24
    (pur Tryz.prog (Builtin.len_ #[232] 3 #[v_l]) fun t30 => 
   callS Tryz.prog 218 #[v_i, t30, (.int .i64 1)] (fun t31 w_3 => 
   act Tryz.prog (Builtin.append_ #[232, 232] 232 #[v_l, t31]) (fun t32 w_4 => 
   pur Tryz.prog (binS .add 3 false true v_n (.int .i64 1)) fun t26 => 
   J_1 t32 t26 w_4) w_3) w_2)
    (pur Tryz.prog (Builtin.len_ #[232] 3 #[v_l]) fun t37 => 
  callS Tryz.prog 218 #[v_i, t37, (.int .i64 60)] (fun t38 w_5 => 
  act Tryz.prog (Builtin.append_ #[232, 232] 232 #[v_l, t38]) (fun t39 w_6 => 
  act Tryz.prog (Instr.buildSlice 45 1 #[(0, t39)]) (fun t40 w_7 => 
  act Tryz.prog (Builtin.append_ #[45, 45] 45 #[v_out, t40]) (fun t41 w_8 => 
  pur Tryz.prog (binS .add 3 false true v_i (.int .i64 1)) fun t15 => 
  J t41 t15 w_8) w_7) w_6) w_5) w_2)) [t22, (.int .i64 0)] w_1) w_1) w_1)
   (Q v_out w_1)) w_1) [(.slice none 0 0), (.int .i64 0)] w
theorem eq142 (v_b : Value) (Q : Value → World → Prop) (w : World) : semF Tryz.prog 142 [v_b] Q w = S142 v_b Q w := by kernel_rfl
theorem ref142 {v_b : Value} {Q : Value → World → Prop} {w : World} (h : S142 v_b Q w) : callS Tryz.prog 142 #[v_b] Q w :=
  callS_of mix (fun a w => Tryz.call142 a w) (by kernel_rfl) (by rw [eq142]; exact h)
-- (*commons/commonsbook.Book).growEntries
def S143 (v_b : Value) (Q : Value → World → Prop) (w : World) : Prop :=
 lp 2 (fun J => fun v_out v_i w_1 => ∀ _j : Fr, 
  pur Tryz.prog (nilV v_b) fun t9 => 
  pur Tryz.prog (Instr.fieldAt 51 t9 22) fun t10 => 
  rd Tryz.prog (Instr.loadAt 46 t10) (fun t11 => 
  pur Tryz.prog (Builtin.len_ #[46] 3 #[t11]) fun t12 => 
  pur Tryz.prog (binS .lss 3 false false v_i t12) fun t13 => 
  condS t13
   (pur Tryz.prog (nilV v_b) fun t17 => 
  pur Tryz.prog (Instr.fieldAt 51 t17 22) fun t18 => 
  rd Tryz.prog (Instr.loadAt 46 t18) (fun t19 => 
  pur Tryz.prog (Instr.indexAt 46 t19 v_i) fun t21 => 
  rd Tryz.prog (Instr.loadAt 234 t21) (fun t22 => 
  lp 2 (fun J_1 => fun v_l v_n w_2 => ∀ _j : Fr, 
   pur Tryz.prog (binS .lss 3 false true v_n (.int .i64 12)) fun t24 => 
   condS t24
    (pur Tryz.prog (Builtin.len_ #[234] 3 #[v_l]) fun t30 => 
   callS Tryz.prog 219 #[v_i, t30, (.int .i64 1)] (fun t31 w_3 => 
   act Tryz.prog (Builtin.append_ #[234, 234] 234 #[v_l, t31]) (fun t32 w_4 => 
   pur Tryz.prog (binS .add 3 false true v_n (.int .i64 1)) fun t26 => 
   J_1 t32 t26 w_4) w_3) w_2)
    (pur Tryz.prog (Builtin.len_ #[234] 3 #[v_l]) fun t37 => 
  callS Tryz.prog 219 #[v_i, t37, (.int .i64 60)] (fun t38 w_5 => 
  act Tryz.prog (Builtin.append_ #[234, 234] 234 #[v_l, t38]) (fun t39 w_6 => 
  act Tryz.prog (Instr.buildSlice 46 1 #[(0, t39)]) (fun t40 w_7 => 
  act Tryz.prog (Builtin.append_ #[46, 46] 46 #[v_out, t40]) (fun t41 w_8 => 
  pur Tryz.prog (binS .add 3 false true v_i (.int .i64 1)) fun t15 => 
  J t41 t15 w_8) w_7) w_6) w_5) w_2)) [t22, (.int .i64 0)] w_1) w_1) w_1)
   (Q v_out w_1)) w_1) [(.slice none 0 0), (.int .i64 0)] w
theorem eq143 (v_b : Value) (Q : Value → World → Prop) (w : World) : semF Tryz.prog 143 [v_b] Q w = S143 v_b Q w := by kernel_rfl
theorem ref143 {v_b : Value} {Q : Value → World → Prop} {w : World} (h : S143 v_b Q w) : callS Tryz.prog 143 #[v_b] Q w :=
  callS_of mix (fun a w => Tryz.call143 a w) (by kernel_rfl) (by rw [eq143]; exact h)
-- (*commons/commonsbook.Book).growParts
def S144 (v_b : Value) (Q : Value → World → Prop) (w : World) : Prop :=
 lp 2 (fun J => fun v_out v_i w_1 => ∀ _j : Fr, 
  pur Tryz.prog (nilV v_b) fun t9 => 
  pur Tryz.prog (Instr.fieldAt 51 t9 24) fun t10 => 
  rd Tryz.prog (Instr.loadAt 47 t10) (fun t11 => 
  pur Tryz.prog (Builtin.len_ #[47] 3 #[t11]) fun t12 => 
  pur Tryz.prog (binS .lss 3 false false v_i t12) fun t13 => 
  condS t13
   (pur Tryz.prog (nilV v_b) fun t17 => 
  pur Tryz.prog (Instr.fieldAt 51 t17 24) fun t18 => 
  rd Tryz.prog (Instr.loadAt 47 t18) (fun t19 => 
  pur Tryz.prog (Instr.indexAt 47 t19 v_i) fun t21 => 
  rd Tryz.prog (Instr.loadAt 93 t21) (fun t22 => 
  lp 2 (fun J_1 => fun v_l v_n w_2 => ∀ _j : Fr, 
   pur Tryz.prog (binS .lss 3 false true v_n (.int .i64 12)) fun t24 => 
   condS t24
    (pur Tryz.prog (Builtin.len_ #[93] 3 #[v_l]) fun t30 => 
   callS Tryz.prog 220 #[v_i, t30, (.int .i64 1)] (fun t31 w_3 => 
   act Tryz.prog (Builtin.append_ #[93, 93] 93 #[v_l, t31]) (fun t32 w_4 => 
   pur Tryz.prog (binS .add 3 false true v_n (.int .i64 1)) fun t26 => 
   J_1 t32 t26 w_4) w_3) w_2)
    (pur Tryz.prog (Builtin.len_ #[93] 3 #[v_l]) fun t37 => 
  callS Tryz.prog 220 #[v_i, t37, (.int .i64 60)] (fun t38 w_5 => 
  act Tryz.prog (Builtin.append_ #[93, 93] 93 #[v_l, t38]) (fun t39 w_6 => 
  act Tryz.prog (Instr.buildSlice 47 1 #[(0, t39)]) (fun t40 w_7 => 
  act Tryz.prog (Builtin.append_ #[47, 47] 47 #[v_out, t40]) (fun t41 w_8 => 
  pur Tryz.prog (binS .add 3 false true v_i (.int .i64 1)) fun t15 => 
  J t41 t15 w_8) w_7) w_6) w_5) w_2)) [t22, (.int .i64 0)] w_1) w_1) w_1)
   (Q v_out w_1)) w_1) [(.slice none 0 0), (.int .i64 0)] w
theorem eq144 (v_b : Value) (Q : Value → World → Prop) (w : World) : semF Tryz.prog 144 [v_b] Q w = S144 v_b Q w := by kernel_rfl
theorem ref144 {v_b : Value} {Q : Value → World → Prop} {w : World} (h : S144 v_b Q w) : callS Tryz.prog 144 #[v_b] Q w :=
  callS_of mix (fun a w => Tryz.call144 a w) (by kernel_rfl) (by rw [eq144]; exact h)
-- (*commons/commonsbook.Book).growMsgs
def S145 (v_b : Value) (Q : Value → World → Prop) (w : World) : Prop :=
 lp 2 (fun J => fun v_out v_i w_1 => ∀ _j : Fr, 
  pur Tryz.prog (nilV v_b) fun t9 => 
  pur Tryz.prog (Instr.fieldAt 51 t9 26) fun t10 => 
  rd Tryz.prog (Instr.loadAt 48 t10) (fun t11 => 
  pur Tryz.prog (Builtin.len_ #[48] 3 #[t11]) fun t12 => 
  pur Tryz.prog (binS .lss 3 false false v_i t12) fun t13 => 
  condS t13
   (pur Tryz.prog (nilV v_b) fun t17 => 
  pur Tryz.prog (Instr.fieldAt 51 t17 26) fun t18 => 
  rd Tryz.prog (Instr.loadAt 48 t18) (fun t19 => 
  pur Tryz.prog (Instr.indexAt 48 t19 v_i) fun t21 => 
  rd Tryz.prog (Instr.loadAt 237 t21) (fun t22 => 
  lp 2 (fun J_1 => fun v_l v_n w_2 => ∀ _j : Fr, 
   pur Tryz.prog (binS .lss 3 false true v_n (.int .i64 12)) fun t24 => 
   condS t24
    (pur Tryz.prog (Builtin.len_ #[237] 3 #[v_l]) fun t30 => 
   callS Tryz.prog 207 #[v_i, t30, (.int .i64 1)] (fun t31 w_3 => 
   act Tryz.prog (Builtin.append_ #[237, 237] 237 #[v_l, t31]) (fun t32 w_4 => 
   pur Tryz.prog (binS .add 3 false true v_n (.int .i64 1)) fun t26 => 
   J_1 t32 t26 w_4) w_3) w_2)
    (pur Tryz.prog (Builtin.len_ #[237] 3 #[v_l]) fun t37 => 
  callS Tryz.prog 207 #[v_i, t37, (.int .i64 60)] (fun t38 w_5 => 
  act Tryz.prog (Builtin.append_ #[237, 237] 237 #[v_l, t38]) (fun t39 w_6 => 
  act Tryz.prog (Instr.buildSlice 48 1 #[(0, t39)]) (fun t40 w_7 => 
  act Tryz.prog (Builtin.append_ #[48, 48] 48 #[v_out, t40]) (fun t41 w_8 => 
  pur Tryz.prog (binS .add 3 false true v_i (.int .i64 1)) fun t15 => 
  J t41 t15 w_8) w_7) w_6) w_5) w_2)) [t22, (.int .i64 0)] w_1) w_1) w_1)
   (Q v_out w_1)) w_1) [(.slice none 0 0), (.int .i64 0)] w
theorem eq145 (v_b : Value) (Q : Value → World → Prop) (w : World) : semF Tryz.prog 145 [v_b] Q w = S145 v_b Q w := by kernel_rfl
theorem ref145 {v_b : Value} {Q : Value → World → Prop} {w : World} (h : S145 v_b Q w) : callS Tryz.prog 145 #[v_b] Q w :=
  callS_of mix (fun a w => Tryz.call145 a w) (by kernel_rfl) (by rw [eq145]; exact h)
-- (*commons/commonsbook.Book).growSteps
def S146 (v_b : Value) (Q : Value → World → Prop) (w : World) : Prop :=
 lp 2 (fun J => fun v_out v_i w_1 => ∀ _j : Fr, 
  pur Tryz.prog (nilV v_b) fun t9 => 
  pur Tryz.prog (Instr.fieldAt 51 t9 28) fun t10 => 
  rd Tryz.prog (Instr.loadAt 49 t10) (fun t11 => 
  pur Tryz.prog (Builtin.len_ #[49] 3 #[t11]) fun t12 => 
  pur Tryz.prog (binS .lss 3 false false v_i t12) fun t13 => 
  condS t13
   (pur Tryz.prog (nilV v_b) fun t17 => 
  pur Tryz.prog (Instr.fieldAt 51 t17 28) fun t18 => 
  rd Tryz.prog (Instr.loadAt 49 t18) (fun t19 => 
  pur Tryz.prog (Instr.indexAt 49 t19 v_i) fun t21 => 
  rd Tryz.prog (Instr.loadAt 239 t21) (fun t22 => 
  lp 2 (fun J_1 => fun v_l v_n w_2 => ∀ _j : Fr, 
   pur Tryz.prog (binS .lss 3 false true v_n (.int .i64 12)) fun t24 => 
   condS t24
    (pur Tryz.prog (Builtin.len_ #[239] 3 #[v_l]) fun t30 => 
   callS Tryz.prog 208 #[v_i, t30, (.int .i64 1)] (fun t31 w_3 => 
   act Tryz.prog (Builtin.append_ #[239, 239] 239 #[v_l, t31]) (fun t32 w_4 => 
   pur Tryz.prog (binS .add 3 false true v_n (.int .i64 1)) fun t26 => 
   J_1 t32 t26 w_4) w_3) w_2)
    (pur Tryz.prog (Builtin.len_ #[239] 3 #[v_l]) fun t37 => 
  callS Tryz.prog 208 #[v_i, t37, (.int .i64 60)] (fun t38 w_5 => 
  act Tryz.prog (Builtin.append_ #[239, 239] 239 #[v_l, t38]) (fun t39 w_6 => 
  act Tryz.prog (Instr.buildSlice 49 1 #[(0, t39)]) (fun t40 w_7 => 
  act Tryz.prog (Builtin.append_ #[49, 49] 49 #[v_out, t40]) (fun t41 w_8 => 
  pur Tryz.prog (binS .add 3 false true v_i (.int .i64 1)) fun t15 => 
  J t41 t15 w_8) w_7) w_6) w_5) w_2)) [t22, (.int .i64 0)] w_1) w_1) w_1)
   (Q v_out w_1)) w_1) [(.slice none 0 0), (.int .i64 0)] w
theorem eq146 (v_b : Value) (Q : Value → World → Prop) (w : World) : semF Tryz.prog 146 [v_b] Q w = S146 v_b Q w := by kernel_rfl
theorem ref146 {v_b : Value} {Q : Value → World → Prop} {w : World} (h : S146 v_b Q w) : callS Tryz.prog 146 #[v_b] Q w :=
  callS_of mix (fun a w => Tryz.call146 a w) (by kernel_rfl) (by rw [eq146]; exact h)
-- commons/commonsbook.markedTexts
def S147 (v_l : Value) (Q : Value → World → Prop) (w : World) : Prop :=
 lp 1 (fun J => fun v_i w_1 => ∀ _j : Fr, 
  pur Tryz.prog (Builtin.len_ #[35] 3 #[v_l]) fun t6 => 
  pur Tryz.prog (binS .lss 3 false false v_i t6) fun t7 => 
  condS t7
   (∃ S : World → Prop, S (World.drew w_1) ∧ 
  pur Tryz.prog (Instr.indexAt 35 v_l v_i) fun t12 => 
  hld Tryz.prog S (Instr.loadAt 220 t12) fun t13 => 
  pur Tryz.prog (Instr.indexAt 35 v_l v_i) fun t17 => 
  hld Tryz.prog S (Instr.loadAt 220 t17) fun t18 => 
  pur Tryz.prog (Builtin.len_ #[220] 3 #[t18]) fun t19 => 
  callS Tryz.prog 209 #[v_i, (.int .i64 0), t19] (fun t20 w_2 => S w_2 ∧ 
  callS Tryz.prog 195 #[t13, t20] (fun t21 w_3 => S w_3 ∧ 
  pur Tryz.prog (Op.unary .not t21) fun t22 => 
  condS t22
   (Q (.bool false) w_3)
   (pur Tryz.prog (binS .add 3 false true v_i (.int .i64 1)) fun t9 => 
  J t9 w_3)) w_2) (World.drew w_1))
   (Q (.bool true) w_1)) [(.int .i64 0)] w
theorem eq147 (v_l : Value) (Q : Value → World → Prop) (w : World) : semF Tryz.prog 147 [v_l] Q w = S147 v_l Q w := by kernel_rfl
theorem ref147 {v_l : Value} {Q : Value → World → Prop} {w : World} (h : S147 v_l Q w) : callS Tryz.prog 147 #[v_l] Q w :=
  callS_of mix (fun a w => Tryz.call147 a w) (by kernel_rfl) (by rw [eq147]; exact h)
-- commons/commonsbook.markedInts
def S148 (v_l : Value) (Q : Value → World → Prop) (w : World) : Prop :=
 lp 1 (fun J => fun v_i w_1 => ∀ _j : Fr, 
  pur Tryz.prog (Builtin.len_ #[36] 3 #[v_l]) fun t6 => 
  pur Tryz.prog (binS .lss 3 false false v_i t6) fun t7 => 
  condS t7
   (∃ S : World → Prop, S (World.drew w_1) ∧ 
  pur Tryz.prog (Instr.indexAt 36 v_l v_i) fun t12 => 
  hld Tryz.prog S (Instr.loadAt 64 t12) fun t13 => 
  pur Tryz.prog (Instr.indexAt 36 v_l v_i) fun t17 => 
  hld Tryz.prog S (Instr.loadAt 64 t17) fun t18 => 
  pur Tryz.prog (Builtin.len_ #[64] 3 #[t18]) fun t19 => 
  callS Tryz.prog 210 #[v_i, (.int .i64 0), t19] (fun t20 w_2 => S w_2 ∧ 
  callS Tryz.prog 20 #[t13, t20] (fun t21 w_3 => S w_3 ∧ 
  pur Tryz.prog (Op.unary .not t21) fun t22 => 
  condS t22
   (Q (.bool false) w_3)
   (pur Tryz.prog (binS .add 3 false true v_i (.int .i64 1)) fun t9 => 
  J t9 w_3)) w_2) (World.drew w_1))
   (Q (.bool true) w_1)) [(.int .i64 0)] w
theorem eq148 (v_l : Value) (Q : Value → World → Prop) (w : World) : semF Tryz.prog 148 [v_l] Q w = S148 v_l Q w := by kernel_rfl
theorem ref148 {v_l : Value} {Q : Value → World → Prop} {w : World} (h : S148 v_l Q w) : callS Tryz.prog 148 #[v_l] Q w :=
  callS_of mix (fun a w => Tryz.call148 a w) (by kernel_rfl) (by rw [eq148]; exact h)
-- commons/commonsbook.markedNums
def S149 (v_l : Value) (Q : Value → World → Prop) (w : World) : Prop :=
 lp 1 (fun J => fun v_i w_1 => ∀ _j : Fr, 
  pur Tryz.prog (Builtin.len_ #[37] 3 #[v_l]) fun t6 => 
  pur Tryz.prog (binS .lss 3 false false v_i t6) fun t7 => 
  condS t7
   (∃ S : World → Prop, S (World.drew w_1) ∧ 
  pur Tryz.prog (Instr.indexAt 37 v_l v_i) fun t12 => 
  hld Tryz.prog S (Instr.loadAt 222 t12) fun t13 => 
  pur Tryz.prog (Instr.indexAt 37 v_l v_i) fun t17 => 
  hld Tryz.prog S (Instr.loadAt 222 t17) fun t18 => 
  pur Tryz.prog (Builtin.len_ #[222] 3 #[t18]) fun t19 => 
  callS Tryz.prog 211 #[v_i, (.int .i64 0), t19] (fun t20 w_2 => S w_2 ∧ 
  callS Tryz.prog 196 #[t13, t20] (fun t21 w_3 => S w_3 ∧ 
  pur Tryz.prog (Op.unary .not t21) fun t22 => 
  condS t22
   (Q (.bool false) w_3)
   (pur Tryz.prog (binS .add 3 false true v_i (.int .i64 1)) fun t9 => 
  J t9 w_3)) w_2) (World.drew w_1))
   (Q (.bool true) w_1)) [(.int .i64 0)] w
theorem eq149 (v_l : Value) (Q : Value → World → Prop) (w : World) : semF Tryz.prog 149 [v_l] Q w = S149 v_l Q w := by kernel_rfl
theorem ref149 {v_l : Value} {Q : Value → World → Prop} {w : World} (h : S149 v_l Q w) : callS Tryz.prog 149 #[v_l] Q w :=
  callS_of mix (fun a w => Tryz.call149 a w) (by kernel_rfl) (by rw [eq149]; exact h)
-- commons/commonsbook.markedSpans
def S150 (v_l : Value) (Q : Value → World → Prop) (w : World) : Prop :=
 lp 1 (fun J => fun v_i w_1 => ∀ _j : Fr, 
  pur Tryz.prog (Builtin.len_ #[38] 3 #[v_l]) fun t6 => 
  pur Tryz.prog (binS .lss 3 false false v_i t6) fun t7 => 
  condS t7
   (∃ S : World → Prop, S (World.drew w_1) ∧ 
  pur Tryz.prog (Instr.indexAt 38 v_l v_i) fun t12 => 
  hld Tryz.prog S (Instr.loadAt 70 t12) fun t13 => 
  pur Tryz.prog (Instr.indexAt 38 v_l v_i) fun t17 => 
  hld Tryz.prog S (Instr.loadAt 70 t17) fun t18 => 
  pur Tryz.prog (Builtin.len_ #[70] 3 #[t18]) fun t19 => 
  callS Tryz.prog 212 #[v_i, (.int .i64 0), t19] (fun t20 w_2 => S w_2 ∧ 
  callS Tryz.prog 38 #[t13, t20] (fun t21 w_3 => S w_3 ∧ 
  pur Tryz.prog (Op.unary .not t21) fun t22 => 
  condS t22
   (Q (.bool false) w_3)
   (pur Tryz.prog (binS .add 3 false true v_i (.int .i64 1)) fun t9 => 
  J t9 w_3)) w_2) (World.drew w_1))
   (Q (.bool true) w_1)) [(.int .i64 0)] w
theorem eq150 (v_l : Value) (Q : Value → World → Prop) (w : World) : semF Tryz.prog 150 [v_l] Q w = S150 v_l Q w := by kernel_rfl
theorem ref150 {v_l : Value} {Q : Value → World → Prop} {w : World} (h : S150 v_l Q w) : callS Tryz.prog 150 #[v_l] Q w :=
  callS_of mix (fun a w => Tryz.call150 a w) (by kernel_rfl) (by rw [eq150]; exact h)
-- commons/commonsbook.markedLocks
def S151 (v_l : Value) (Q : Value → World → Prop) (w : World) : Prop :=
 lp 1 (fun J => fun v_i w_1 => ∀ _j : Fr, 
  pur Tryz.prog (Builtin.len_ #[39] 3 #[v_l]) fun t6 => 
  pur Tryz.prog (binS .lss 3 false false v_i t6) fun t7 => 
  condS t7
   (∃ S : World → Prop, S (World.drew w_1) ∧ 
  pur Tryz.prog (Instr.indexAt 39 v_l v_i) fun t12 => 
  hld Tryz.prog S (Instr.loadAt 109 t12) fun t13 => 
  pur Tryz.prog (Instr.indexAt 39 v_l v_i) fun t17 => 
  hld Tryz.prog S (Instr.loadAt 109 t17) fun t18 => 
  pur Tryz.prog (Builtin.len_ #[109] 3 #[t18]) fun t19 => 
  callS Tryz.prog 213 #[v_i, (.int .i64 0), t19] (fun t20 w_2 => S w_2 ∧ 
  callS Tryz.prog 69 #[t13, t20] (fun t21 w_3 => S w_3 ∧ 
  pur Tryz.prog (Op.unary .not t21) fun t22 => 
  condS t22
   (Q (.bool false) w_3)
   (pur Tryz.prog (binS .add 3 false true v_i (.int .i64 1)) fun t9 => 
  J t9 w_3)) w_2) (World.drew w_1))
   (Q (.bool true) w_1)) [(.int .i64 0)] w
theorem eq151 (v_l : Value) (Q : Value → World → Prop) (w : World) : semF Tryz.prog 151 [v_l] Q w = S151 v_l Q w := by kernel_rfl
theorem ref151 {v_l : Value} {Q : Value → World → Prop} {w : World} (h : S151 v_l Q w) : callS Tryz.prog 151 #[v_l] Q w :=
  callS_of mix (fun a w => Tryz.call151 a w) (by kernel_rfl) (by rw [eq151]; exact h)
-- commons/commonsbook.markedImages
def S152 (v_l : Value) (Q : Value → World → Prop) (w : World) : Prop :=
 lp 1 (fun J => fun v_i w_1 => ∀ _j : Fr, 
  pur Tryz.prog (Builtin.len_ #[40] 3 #[v_l]) fun t6 => 
  pur Tryz.prog (binS .lss 3 false false v_i t6) fun t7 => 
  condS t7
   (∃ S : World → Prop, S (World.drew w_1) ∧ 
  pur Tryz.prog (Instr.indexAt 40 v_l v_i) fun t12 => 
  hld Tryz.prog S (Instr.loadAt 131 t12) fun t13 => 
  pur Tryz.prog (Instr.indexAt 40 v_l v_i) fun t17 => 
  hld Tryz.prog S (Instr.loadAt 131 t17) fun t18 => 
  pur Tryz.prog (Builtin.len_ #[131] 3 #[t18]) fun t19 => 
  callS Tryz.prog 214 #[v_i, (.int .i64 0), t19] (fun t20 w_2 => S w_2 ∧ 
  callS Tryz.prog 93 #[t13, t20] (fun t21 w_3 => S w_3 ∧ 
  pur Tryz.prog (Op.unary .not t21) fun t22 => 
  condS t22
   (Q (.bool false) w_3)
   (pur Tryz.prog (binS .add 3 false true v_i (.int .i64 1)) fun t9 => 
  J t9 w_3)) w_2) (World.drew w_1))
   (Q (.bool true) w_1)) [(.int .i64 0)] w
theorem eq152 (v_l : Value) (Q : Value → World → Prop) (w : World) : semF Tryz.prog 152 [v_l] Q w = S152 v_l Q w := by kernel_rfl
theorem ref152 {v_l : Value} {Q : Value → World → Prop} {w : World} (h : S152 v_l Q w) : callS Tryz.prog 152 #[v_l] Q w :=
  callS_of mix (fun a w => Tryz.call152 a w) (by kernel_rfl) (by rw [eq152]; exact h)
-- commons/commonsbook.markedRecords
def S153 (v_l : Value) (Q : Value → World → Prop) (w : World) : Prop :=
 lp 1 (fun J => fun v_i w_1 => ∀ _j : Fr, 
  pur Tryz.prog (Builtin.len_ #[41] 3 #[v_l]) fun t6 => 
  pur Tryz.prog (binS .lss 3 false false v_i t6) fun t7 => 
  condS t7
   (∃ S : World → Prop, S (World.drew w_1) ∧ 
  pur Tryz.prog (Instr.indexAt 41 v_l v_i) fun t12 => 
  hld Tryz.prog S (Instr.loadAt 224 t12) fun t13 => 
  pur Tryz.prog (Instr.indexAt 41 v_l v_i) fun t17 => 
  hld Tryz.prog S (Instr.loadAt 224 t17) fun t18 => 
  pur Tryz.prog (Builtin.len_ #[224] 3 #[t18]) fun t19 => 
  callS Tryz.prog 206 #[v_i, (.int .i64 0), t19] (fun t20 w_2 => S w_2 ∧ 
  callS Tryz.prog 197 #[t13, t20] (fun t21 w_3 => S w_3 ∧ 
  pur Tryz.prog (Op.unary .not t21) fun t22 => 
  condS t22
   (Q (.bool false) w_3)
   (pur Tryz.prog (binS .add 3 false true v_i (.int .i64 1)) fun t9 => 
  J t9 w_3)) w_2) (World.drew w_1))
   (Q (.bool true) w_1)) [(.int .i64 0)] w
theorem eq153 (v_l : Value) (Q : Value → World → Prop) (w : World) : semF Tryz.prog 153 [v_l] Q w = S153 v_l Q w := by kernel_rfl
theorem ref153 {v_l : Value} {Q : Value → World → Prop} {w : World} (h : S153 v_l Q w) : callS Tryz.prog 153 #[v_l] Q w :=
  callS_of mix (fun a w => Tryz.call153 a w) (by kernel_rfl) (by rw [eq153]; exact h)
-- commons/commonsbook.markedPackets
def S154 (v_l : Value) (Q : Value → World → Prop) (w : World) : Prop :=
 lp 1 (fun J => fun v_i w_1 => ∀ _j : Fr, 
  pur Tryz.prog (Builtin.len_ #[42] 3 #[v_l]) fun t6 => 
  pur Tryz.prog (binS .lss 3 false false v_i t6) fun t7 => 
  condS t7
   (∃ S : World → Prop, S (World.drew w_1) ∧ 
  pur Tryz.prog (Instr.indexAt 42 v_l v_i) fun t12 => 
  hld Tryz.prog S (Instr.loadAt 226 t12) fun t13 => 
  pur Tryz.prog (Instr.indexAt 42 v_l v_i) fun t17 => 
  hld Tryz.prog S (Instr.loadAt 226 t17) fun t18 => 
  pur Tryz.prog (Builtin.len_ #[226] 3 #[t18]) fun t19 => 
  callS Tryz.prog 215 #[v_i, (.int .i64 0), t19] (fun t20 w_2 => S w_2 ∧ 
  callS Tryz.prog 198 #[t13, t20] (fun t21 w_3 => S w_3 ∧ 
  pur Tryz.prog (Op.unary .not t21) fun t22 => 
  condS t22
   (Q (.bool false) w_3)
   (pur Tryz.prog (binS .add 3 false true v_i (.int .i64 1)) fun t9 => 
  J t9 w_3)) w_2) (World.drew w_1))
   (Q (.bool true) w_1)) [(.int .i64 0)] w
theorem eq154 (v_l : Value) (Q : Value → World → Prop) (w : World) : semF Tryz.prog 154 [v_l] Q w = S154 v_l Q w := by kernel_rfl
theorem ref154 {v_l : Value} {Q : Value → World → Prop} {w : World} (h : S154 v_l Q w) : callS Tryz.prog 154 #[v_l] Q w :=
  callS_of mix (fun a w => Tryz.call154 a w) (by kernel_rfl) (by rw [eq154]; exact h)
-- commons/commonsbook.markedFrames
def S155 (v_l : Value) (Q : Value → World → Prop) (w : World) : Prop :=
 lp 1 (fun J => fun v_i w_1 => ∀ _j : Fr, 
  pur Tryz.prog (Builtin.len_ #[43] 3 #[v_l]) fun t6 => 
  pur Tryz.prog (binS .lss 3 false false v_i t6) fun t7 => 
  condS t7
   (∃ S : World → Prop, S (World.drew w_1) ∧ 
  pur Tryz.prog (Instr.indexAt 43 v_l v_i) fun t12 => 
  hld Tryz.prog S (Instr.loadAt 228 t12) fun t13 => 
  pur Tryz.prog (Instr.indexAt 43 v_l v_i) fun t17 => 
  hld Tryz.prog S (Instr.loadAt 228 t17) fun t18 => 
  pur Tryz.prog (Builtin.len_ #[228] 3 #[t18]) fun t19 => 
  callS Tryz.prog 216 #[v_i, (.int .i64 0), t19] (fun t20 w_2 => S w_2 ∧ 
  callS Tryz.prog 199 #[t13, t20] (fun t21 w_3 => S w_3 ∧ 
  pur Tryz.prog (Op.unary .not t21) fun t22 => 
  condS t22
   (Q (.bool false) w_3)
   (pur Tryz.prog (binS .add 3 false true v_i (.int .i64 1)) fun t9 => 
  J t9 w_3)) w_2) (World.drew w_1))
   (Q (.bool true) w_1)) [(.int .i64 0)] w
theorem eq155 (v_l : Value) (Q : Value → World → Prop) (w : World) : semF Tryz.prog 155 [v_l] Q w = S155 v_l Q w := by kernel_rfl
theorem ref155 {v_l : Value} {Q : Value → World → Prop} {w : World} (h : S155 v_l Q w) : callS Tryz.prog 155 #[v_l] Q w :=
  callS_of mix (fun a w => Tryz.call155 a w) (by kernel_rfl) (by rw [eq155]; exact h)
-- commons/commonsbook.markedWaits
def S156 (v_l : Value) (Q : Value → World → Prop) (w : World) : Prop :=
 lp 1 (fun J => fun v_i w_1 => ∀ _j : Fr, 
  pur Tryz.prog (Builtin.len_ #[44] 3 #[v_l]) fun t6 => 
  pur Tryz.prog (binS .lss 3 false false v_i t6) fun t7 => 
  condS t7
   (∃ S : World → Prop, S (World.drew w_1) ∧ 
  pur Tryz.prog (Instr.indexAt 44 v_l v_i) fun t12 => 
  hld Tryz.prog S (Instr.loadAt 230 t12) fun t13 => 
  pur Tryz.prog (Instr.indexAt 44 v_l v_i) fun t17 => 
  hld Tryz.prog S (Instr.loadAt 230 t17) fun t18 => 
  pur Tryz.prog (Builtin.len_ #[230] 3 #[t18]) fun t19 => 
  callS Tryz.prog 217 #[v_i, (.int .i64 0), t19] (fun t20 w_2 => S w_2 ∧ 
  callS Tryz.prog 200 #[t13, t20] (fun t21 w_3 => S w_3 ∧ 
  pur Tryz.prog (Op.unary .not t21) fun t22 => 
  condS t22
   (Q (.bool false) w_3)
   (pur Tryz.prog (binS .add 3 false true v_i (.int .i64 1)) fun t9 => 
  J t9 w_3)) w_2) (World.drew w_1))
   (Q (.bool true) w_1)) [(.int .i64 0)] w
theorem eq156 (v_l : Value) (Q : Value → World → Prop) (w : World) : semF Tryz.prog 156 [v_l] Q w = S156 v_l Q w := by kernel_rfl
theorem ref156 {v_l : Value} {Q : Value → World → Prop} {w : World} (h : S156 v_l Q w) : callS Tryz.prog 156 #[v_l] Q w :=
  callS_of mix (fun a w => Tryz.call156 a w) (by kernel_rfl) (by rw [eq156]; exact h)
-- commons/commonsbook.markedRevokes
def S157 (v_l : Value) (Q : Value → World → Prop) (w : World) : Prop :=
 lp 1 (fun J => fun v_i w_1 => ∀ _j : Fr, 
  pur Tryz.prog (Builtin.len_ #[45] 3 #[v_l]) fun t6 => 
  pur Tryz.prog (binS .lss 3 false false v_i t6) fun t7 => 
  condS t7
   (∃ S : World → Prop, S (World.drew w_1) ∧ 
  pur Tryz.prog (Instr.indexAt 45 v_l v_i) fun t12 => 
  hld Tryz.prog S (Instr.loadAt 232 t12) fun t13 => 
  pur Tryz.prog (Instr.indexAt 45 v_l v_i) fun t17 => 
  hld Tryz.prog S (Instr.loadAt 232 t17) fun t18 => 
  pur Tryz.prog (Builtin.len_ #[232] 3 #[t18]) fun t19 => 
  callS Tryz.prog 218 #[v_i, (.int .i64 0), t19] (fun t20 w_2 => S w_2 ∧ 
  callS Tryz.prog 201 #[t13, t20] (fun t21 w_3 => S w_3 ∧ 
  pur Tryz.prog (Op.unary .not t21) fun t22 => 
  condS t22
   (Q (.bool false) w_3)
   (pur Tryz.prog (binS .add 3 false true v_i (.int .i64 1)) fun t9 => 
  J t9 w_3)) w_2) (World.drew w_1))
   (Q (.bool true) w_1)) [(.int .i64 0)] w
theorem eq157 (v_l : Value) (Q : Value → World → Prop) (w : World) : semF Tryz.prog 157 [v_l] Q w = S157 v_l Q w := by kernel_rfl
theorem ref157 {v_l : Value} {Q : Value → World → Prop} {w : World} (h : S157 v_l Q w) : callS Tryz.prog 157 #[v_l] Q w :=
  callS_of mix (fun a w => Tryz.call157 a w) (by kernel_rfl) (by rw [eq157]; exact h)
-- commons/commonsbook.markedEntries
def S158 (v_l : Value) (Q : Value → World → Prop) (w : World) : Prop :=
 lp 1 (fun J => fun v_i w_1 => ∀ _j : Fr, 
  pur Tryz.prog (Builtin.len_ #[46] 3 #[v_l]) fun t6 => 
  pur Tryz.prog (binS .lss 3 false false v_i t6) fun t7 => 
  condS t7
   (∃ S : World → Prop, S (World.drew w_1) ∧ 
  pur Tryz.prog (Instr.indexAt 46 v_l v_i) fun t12 => 
  hld Tryz.prog S (Instr.loadAt 234 t12) fun t13 => 
  pur Tryz.prog (Instr.indexAt 46 v_l v_i) fun t17 => 
  hld Tryz.prog S (Instr.loadAt 234 t17) fun t18 => 
  pur Tryz.prog (Builtin.len_ #[234] 3 #[t18]) fun t19 => 
  callS Tryz.prog 219 #[v_i, (.int .i64 0), t19] (fun t20 w_2 => S w_2 ∧ 
  callS Tryz.prog 202 #[t13, t20] (fun t21 w_3 => S w_3 ∧ 
  pur Tryz.prog (Op.unary .not t21) fun t22 => 
  condS t22
   (Q (.bool false) w_3)
   (pur Tryz.prog (binS .add 3 false true v_i (.int .i64 1)) fun t9 => 
  J t9 w_3)) w_2) (World.drew w_1))
   (Q (.bool true) w_1)) [(.int .i64 0)] w
theorem eq158 (v_l : Value) (Q : Value → World → Prop) (w : World) : semF Tryz.prog 158 [v_l] Q w = S158 v_l Q w := by kernel_rfl
theorem ref158 {v_l : Value} {Q : Value → World → Prop} {w : World} (h : S158 v_l Q w) : callS Tryz.prog 158 #[v_l] Q w :=
  callS_of mix (fun a w => Tryz.call158 a w) (by kernel_rfl) (by rw [eq158]; exact h)
-- commons/commonsbook.markedParts
def S159 (v_l : Value) (Q : Value → World → Prop) (w : World) : Prop :=
 lp 1 (fun J => fun v_i w_1 => ∀ _j : Fr, 
  pur Tryz.prog (Builtin.len_ #[47] 3 #[v_l]) fun t6 => 
  pur Tryz.prog (binS .lss 3 false false v_i t6) fun t7 => 
  condS t7
   (∃ S : World → Prop, S (World.drew w_1) ∧ 
  pur Tryz.prog (Instr.indexAt 47 v_l v_i) fun t12 => 
  hld Tryz.prog S (Instr.loadAt 93 t12) fun t13 => 
  pur Tryz.prog (Instr.indexAt 47 v_l v_i) fun t17 => 
  hld Tryz.prog S (Instr.loadAt 93 t17) fun t18 => 
  pur Tryz.prog (Builtin.len_ #[93] 3 #[t18]) fun t19 => 
  callS Tryz.prog 220 #[v_i, (.int .i64 0), t19] (fun t20 w_2 => S w_2 ∧ 
  callS Tryz.prog 203 #[t13, t20] (fun t21 w_3 => S w_3 ∧ 
  pur Tryz.prog (Op.unary .not t21) fun t22 => 
  condS t22
   (Q (.bool false) w_3)
   (pur Tryz.prog (binS .add 3 false true v_i (.int .i64 1)) fun t9 => 
  J t9 w_3)) w_2) (World.drew w_1))
   (Q (.bool true) w_1)) [(.int .i64 0)] w
theorem eq159 (v_l : Value) (Q : Value → World → Prop) (w : World) : semF Tryz.prog 159 [v_l] Q w = S159 v_l Q w := by kernel_rfl
theorem ref159 {v_l : Value} {Q : Value → World → Prop} {w : World} (h : S159 v_l Q w) : callS Tryz.prog 159 #[v_l] Q w :=
  callS_of mix (fun a w => Tryz.call159 a w) (by kernel_rfl) (by rw [eq159]; exact h)
-- commons/commonsbook.markedMsgs
def S160 (v_l : Value) (Q : Value → World → Prop) (w : World) : Prop :=
 lp 1 (fun J => fun v_i w_1 => ∀ _j : Fr, 
  pur Tryz.prog (Builtin.len_ #[48] 3 #[v_l]) fun t6 => 
  pur Tryz.prog (binS .lss 3 false false v_i t6) fun t7 => 
  condS t7
   (∃ S : World → Prop, S (World.drew w_1) ∧ 
  pur Tryz.prog (Instr.indexAt 48 v_l v_i) fun t12 => 
  hld Tryz.prog S (Instr.loadAt 237 t12) fun t13 => 
  pur Tryz.prog (Instr.indexAt 48 v_l v_i) fun t17 => 
  hld Tryz.prog S (Instr.loadAt 237 t17) fun t18 => 
  pur Tryz.prog (Builtin.len_ #[237] 3 #[t18]) fun t19 => 
  callS Tryz.prog 207 #[v_i, (.int .i64 0), t19] (fun t20 w_2 => S w_2 ∧ 
  callS Tryz.prog 204 #[t13, t20] (fun t21 w_3 => S w_3 ∧ 
  pur Tryz.prog (Op.unary .not t21) fun t22 => 
  condS t22
   (Q (.bool false) w_3)
   (pur Tryz.prog (binS .add 3 false true v_i (.int .i64 1)) fun t9 => 
  J t9 w_3)) w_2) (World.drew w_1))
   (Q (.bool true) w_1)) [(.int .i64 0)] w
theorem eq160 (v_l : Value) (Q : Value → World → Prop) (w : World) : semF Tryz.prog 160 [v_l] Q w = S160 v_l Q w := by kernel_rfl
theorem ref160 {v_l : Value} {Q : Value → World → Prop} {w : World} (h : S160 v_l Q w) : callS Tryz.prog 160 #[v_l] Q w :=
  callS_of mix (fun a w => Tryz.call160 a w) (by kernel_rfl) (by rw [eq160]; exact h)
-- commons/commonsbook.markedSteps
def S161 (v_l : Value) (Q : Value → World → Prop) (w : World) : Prop :=
 lp 1 (fun J => fun v_i w_1 => ∀ _j : Fr, 
  pur Tryz.prog (Builtin.len_ #[49] 3 #[v_l]) fun t6 => 
  pur Tryz.prog (binS .lss 3 false false v_i t6) fun t7 => 
  condS t7
   (∃ S : World → Prop, S (World.drew w_1) ∧ 
  pur Tryz.prog (Instr.indexAt 49 v_l v_i) fun t12 => 
  hld Tryz.prog S (Instr.loadAt 239 t12) fun t13 => 
  pur Tryz.prog (Instr.indexAt 49 v_l v_i) fun t17 => 
  hld Tryz.prog S (Instr.loadAt 239 t17) fun t18 => 
  pur Tryz.prog (Builtin.len_ #[239] 3 #[t18]) fun t19 => 
  callS Tryz.prog 208 #[v_i, (.int .i64 0), t19] (fun t20 w_2 => S w_2 ∧ 
  callS Tryz.prog 205 #[t13, t20] (fun t21 w_3 => S w_3 ∧ 
  pur Tryz.prog (Op.unary .not t21) fun t22 => 
  condS t22
   (Q (.bool false) w_3)
   (pur Tryz.prog (binS .add 3 false true v_i (.int .i64 1)) fun t9 => 
  J t9 w_3)) w_2) (World.drew w_1))
   (Q (.bool true) w_1)) [(.int .i64 0)] w
theorem eq161 (v_l : Value) (Q : Value → World → Prop) (w : World) : semF Tryz.prog 161 [v_l] Q w = S161 v_l Q w := by kernel_rfl
theorem ref161 {v_l : Value} {Q : Value → World → Prop} {w : World} (h : S161 v_l Q w) : callS Tryz.prog 161 #[v_l] Q w :=
  callS_of mix (fun a w => Tryz.call161 a w) (by kernel_rfl) (by rw [eq161]; exact h)
-- slices.DeleteFunc[[]commons/api.Span,commons/api.Span]
def S162 (v_s v_del : Value) (Q : Value → World → Prop) (w : World) : Prop :=
 callS Tryz.prog 221 #[v_s, v_del] (fun t10 w_1 => 
 pur Tryz.prog (binS .eql 3 false true t10 (.int .i64 (-1))) fun t12 => 
 condS t12
  (Q v_s w_1)
  (pur Tryz.prog (binS .add 3 false true t10 (.int .i64 1)) fun t15 => 
 lp 2 (fun J => fun v_i v_j w_2 => ∀ _j : Fr, 
  pur Tryz.prog (Builtin.len_ #[70] 3 #[v_s]) fun t18 => 
  pur Tryz.prog (binS .lss 3 false false v_j t18) fun t19 => 
  condS t19
   (jn 1 (fun J_1 => 
   pur Tryz.prog (Instr.indexAt 70 v_s v_j) fun t24 => 
   rd Tryz.prog (Instr.loadAt 72 t24) (fun t25 => 
   act Tryz.prog (Instr.alloc 72 true (.tuple #[])) (fun t7 w_3 => 
   act Tryz.prog (thenU (Instr.storeAt 72 t7 t25)) (fun _ w_4 => 
   rd Tryz.prog (Instr.loadAt 72 t7) (fun t27 => 
   callF Tryz.prog v_del #[t27] (fun t28 w_5 => 
   pur Tryz.prog (Op.unary .not t28) fun t29 => 
   condS t29
    (rd Tryz.prog (Instr.loadAt 72 t7) (fun t32 => 
    pur Tryz.prog (Instr.indexAt 70 v_s v_i) fun t33 => 
    act Tryz.prog (thenU (Instr.storeAt 72 t33 t32)) (fun _ w_6 => 
    pur Tryz.prog (binS .add 3 false true v_i (.int .i64 1)) fun t35 => 
    J_1 t35 w_6) w_5) w_5)
    (J_1 v_i w_5)) w_4) w_4) w_3) w_2) w_2)
  (fun v_i_1 w_7 => ∀ _j : Fr, 
   pur Tryz.prog (binS .add 3 false true v_j (.int .i64 1)) fun t21 => 
   J v_i_1 t21 w_7))
   (pur Tryz.prog (Instr.sliceAt 70 v_s (some v_i) none none) fun t38 => 
 act Tryz.prog (Builtin.clear_ #[70] 0 #[t38]) (fun _ w_8 => 
 pur Tryz.prog (Instr.sliceAt 70 v_s none (some v_i) none) fun t41 => 
 Q t41 w_8) w_2)) [t10, t15] w_1)) w
theorem eq162 (v_s v_del : Value) (Q : Value → World → Prop) (w : World) : semF Tryz.prog 162 [v_s, v_del] Q w = S162 v_s v_del Q w := by kernel_rfl
theorem ref162 {v_s v_del : Value} {Q : Value → World → Prop} {w : World} (h : S162 v_s v_del Q w) : callS Tryz.prog 162 #[v_s, v_del] Q w :=
  callS_of mix (fun a w => Tryz.call162 a w) (by kernel_rfl) (by rw [eq162]; exact h)
-- slices.Clone[[]commons/api.Span,commons/api.Span]
def S163 (v_s : Value) (Q : Value → World → Prop) (w : World) : Prop :=
 rd Tryz.prog (binS .eql 70 false true v_s (.slice none 0 0)) (fun t4 => 
 condS t4
  (Q (.slice none 0 0) w)
  (act Tryz.prog (Instr.buildSlice 70 0 #[]) (fun t5 w_1 => 
 act Tryz.prog (Builtin.append_ #[70, 70] 70 #[t5, v_s]) (fun t7 w_2 => 
 Q t7 w_2) w_1) w)) w
theorem eq163 (v_s : Value) (Q : Value → World → Prop) (w : World) : semF Tryz.prog 163 [v_s] Q w = S163 v_s Q w := by kernel_rfl
theorem ref163 {v_s : Value} {Q : Value → World → Prop} {w : World} (h : S163 v_s Q w) : callS Tryz.prog 163 #[v_s] Q w :=
  callS_of mix (fun a w => Tryz.call163 a w) (by kernel_rfl) (by rw [eq163]; exact h)
-- commons/span.Norm$1
def S164 (v_s : Value) (Q : Value → World → Prop) (w : World) : Prop :=
 act Tryz.prog (Instr.box 72 v_s) (fun t1 w_1 => 
 rd Tryz.prog (Instr.loadAt 72 t1) (fun t3 => 
 callS Tryz.prog 25 #[t3] (fun t4 w_2 => 
 pur Tryz.prog (Op.unary .not t4) fun t5 => 
 Q t5 w_2) w_1) w_1) w
theorem eq164 (v_s : Value) (Q : Value → World → Prop) (w : World) : semF Tryz.prog 164 [v_s] Q w = S164 v_s Q w := by kernel_rfl
theorem ref164 {v_s : Value} {Q : Value → World → Prop} {w : World} (h : S164 v_s Q w) : callS Tryz.prog 164 #[v_s] Q w :=
  callS_of mix (fun a w => Tryz.call164 a w) (by kernel_rfl) (by rw [eq164]; exact h)
-- commons/span.Norm$2
def S166 (v_a v_b : Value) (Q : Value → World → Prop) (w : World) : Prop :=
 act Tryz.prog (Instr.box 72 v_a) (fun t2 w_1 => 
 act Tryz.prog (Instr.box 72 v_b) (fun t3 w_2 => 
 ∃ S : World → Prop, S (World.drew w_2) ∧ 
 pur Tryz.prog (Instr.fieldAt 72 t2 0) fun t5 => 
 hld Tryz.prog S (Instr.loadAt 3 t5) fun t6 => 
 pur Tryz.prog (Instr.fieldAt 72 t3 0) fun t7 => 
 hld Tryz.prog S (Instr.loadAt 3 t7) fun t8 => 
 callS Tryz.prog 168 #[t6, t8] (fun t9 w_3 => S w_3 ∧ 
 pur Tryz.prog (Instr.fieldAt 72 t2 1) fun t10 => 
 hld Tryz.prog S (Instr.loadAt 3 t10) fun t11 => 
 pur Tryz.prog (Instr.fieldAt 72 t3 1) fun t12 => 
 hld Tryz.prog S (Instr.loadAt 3 t12) fun t13 => 
 callS Tryz.prog 168 #[t11, t13] (fun t14 w_4 => S w_4 ∧ 
 act Tryz.prog (Instr.buildSlice 64 2 #[(0, t9), (1, t14)]) (fun t15 w_5 => S w_5 ∧ 
 callS Tryz.prog 167 #[t15] (fun t16 w_6 => S w_6 ∧ 
 Q t16 w_6) w_5) w_4) w_3) (World.drew w_2)) w_1) w
theorem eq166 (v_a v_b : Value) (Q : Value → World → Prop) (w : World) : semF Tryz.prog 166 [v_a, v_b] Q w = S166 v_a v_b Q w := by kernel_rfl
theorem ref166 {v_a v_b : Value} {Q : Value → World → Prop} {w : World} (h : S166 v_a v_b Q w) : callS Tryz.prog 166 #[v_a, v_b] Q w :=
  callS_of mix (fun a w => Tryz.call166 a w) (by kernel_rfl) (by rw [eq166]; exact h)
-- cmp.Or[int]
def S167 (v_vals : Value) (Q : Value → World → Prop) (w : World) : Prop :=
 pur Tryz.prog (Builtin.len_ #[64] 3 #[v_vals]) fun t7 => 
 lp 1 (fun J => fun t8 w_1 => ∀ _j : Fr, 
  pur Tryz.prog (binS .lss 3 false false t8 t7) fun t9 => 
  condS t9
   (pur Tryz.prog (Instr.indexAt 64 v_vals t8) fun t10 => 
  rd Tryz.prog (Instr.loadAt 3 t10) (fun t11 => 
  pur Tryz.prog (binS .neq 3 false false t11 (.int .i64 0)) fun t14 => 
  condS t14
   (Q t11 w_1)
   (pur Tryz.prog (binS .add 3 false true t8 (.int .i64 1)) fun t16 => 
  J t16 w_1)) w_1)
   (Q (.int .i64 0) w_1)) [(.int .i64 0)] w
theorem eq167 (v_vals : Value) (Q : Value → World → Prop) (w : World) : semF Tryz.prog 167 [v_vals] Q w = S167 v_vals Q w := by kernel_rfl
theorem ref167 {v_vals : Value} {Q : Value → World → Prop} {w : World} (h : S167 v_vals Q w) : callS Tryz.prog 167 #[v_vals] Q w :=
  callS_of mix (fun a w => Tryz.call167 a w) (by kernel_rfl) (by rw [eq167]; exact h)
-- cmp.Compare[int]
def S168 (v_x v_y : Value) (Q : Value → World → Prop) (w : World) : Prop :=
 callS Tryz.prog 224 #[v_x] (fun t8 w_1 => 
 callS Tryz.prog 224 #[v_y] (fun t10 w_2 => 
 condS t8
  (condS t10
   (Q (.int .i64 0) w_2)
   (Q (.int .i64 (-1)) w_2))
  (condS t10
  (Q (.int .i64 1) w_2)
  (pur Tryz.prog (binS .lss 3 false false v_x v_y) fun t16 => 
 condS t16
  (Q (.int .i64 (-1)) w_2)
  (pur Tryz.prog (binS .gtr 3 false false v_x v_y) fun t19 => 
 condS t19
  (Q (.int .i64 1) w_2)
  (Q (.int .i64 0) w_2))))) w_1) w
theorem eq168 (v_x v_y : Value) (Q : Value → World → Prop) (w : World) : semF Tryz.prog 168 [v_x, v_y] Q w = S168 v_x v_y Q w := by kernel_rfl
theorem ref168 {v_x v_y : Value} {Q : Value → World → Prop} {w : World} (h : S168 v_x v_y Q w) : callS Tryz.prog 168 #[v_x, v_y] Q w :=
  callS_of mix (fun a w => Tryz.call168 a w) (by kernel_rfl) (by rw [eq168]; exact h)
-- (*commons/imap.Map[int]).lay
def S171 (v_m v_l : Value) (Q : Value → World → Prop) (w : World) : Prop :=
 callS Tryz.prog 226 #[v_l, (.func (.func 227) #[] #[])] (fun _ w_1 => 
 pur Tryz.prog (nilV v_m) fun t10 => 
 pur Tryz.prog (Instr.fieldAt 95 t10 0) fun t11 => 
 act Tryz.prog (thenU (Instr.storeAt 93 t11 (.slice none 0 0))) (fun _ w_2 => 
 pur Tryz.prog (Builtin.len_ #[93] 3 #[v_l]) fun t13 => 
 lp 1 (fun J => fun t14 w_3 => ∀ _j : Fr, 
  pur Tryz.prog (binS .lss 3 false false t14 t13) fun t15 => 
  condS t15
   (jn 0 (fun J_1 => 
   pur Tryz.prog (Instr.indexAt 93 v_l t14) fun t16 => 
   rd Tryz.prog (Instr.loadAt 201 t16) (fun t17 => 
   act Tryz.prog (Instr.alloc 201 true (.tuple #[])) (fun t5 w_4 => 
   act Tryz.prog (thenU (Instr.storeAt 201 t5 t17)) (fun _ w_5 => 
   pur Tryz.prog (nilV v_m) fun t19 => 
   pur Tryz.prog (Instr.fieldAt 95 t19 0) fun t20 => 
   rd Tryz.prog (Instr.loadAt 93 t20) (fun t21 => 
   pur Tryz.prog (Builtin.len_ #[93] 3 #[t21]) fun t22 => 
   pur Tryz.prog (binS .sub 3 false true t22 (.int .i64 1)) fun t23 => 
   pur Tryz.prog (binS .geq 3 false true t23 (.int .i64 0)) fun t25 => 
   gd t25 true (fun k w_6 => k v_m w_6) (fun t27_1 w_7 => 
   gd t25 true (fun k_1 w_8 => pur Tryz.prog (nilV t27_1) fun t28 => k_1 t28 w_8) (fun t28_1 w_9 => 
   gd t25 true (fun k_2 w_10 => pur Tryz.prog (Instr.fieldAt 95 t28_1 0) fun t29 => k_2 t29 w_10) (fun t29_1 w_11 => 
   gd t25 true (fun k_3 w_12 => rd Tryz.prog (Instr.loadAt 93 t29_1) (fun t30 => k_3 t30 w_12) w_12) (fun t30_1 w_13 => 
   gd t25 true (fun k_4 w_14 => k_4 t23 w_14) (fun t31_1 w_15 => 
   gd t25 true (fun k_5 w_16 => pur Tryz.prog (Instr.indexAt 93 t30_1 t31_1) fun t32 => k_5 t32 w_16) (fun t32_1 w_17 => 
   gd t25 true (fun k_6 w_18 => pur Tryz.prog (Instr.fieldAt 201 t32_1 0) fun t33 => k_6 t33 w_18) (fun t33_1 w_19 => 
   gd t25 true (fun k_7 w_20 => pur Tryz.prog (Instr.fieldAt 72 t33_1 1) fun t34 => k_7 t34 w_20) (fun t34_1 w_21 => 
   gd t25 true (fun k_8 w_22 => rd Tryz.prog (Instr.loadAt 3 t34_1) (fun t35 => k_8 t35 w_22) w_22) (fun t35_1 w_23 => 
   gd t25 true (fun k_9 w_24 => pur Tryz.prog (Instr.fieldAt 201 t5 0) fun t36 => k_9 t36 w_24) (fun t36_1 w_25 => 
   gd t25 true (fun k_10 w_26 => pur Tryz.prog (Instr.fieldAt 72 t36_1 0) fun t37 => k_10 t37 w_26) (fun t37_1 w_27 => 
   gd t25 true (fun k_11 w_28 => rd Tryz.prog (Instr.loadAt 3 t37_1) (fun t38 => k_11 t38 w_28) w_28) (fun t38_1 w_29 => 
   gd t25 true (fun k_12 w_30 => pur Tryz.prog (binS .eql 3 false false t35_1 t38_1) fun t39 => k_12 t39 w_30) (fun t39_1 w_31 => 
   pur Tryz.prog (pickS t25 t39_1 (.bool false)) fun t40 => 
   gd t40 true (fun k_13 w_32 => k_13 v_m w_32) (fun t42_1 w_33 => 
   gd t40 true (fun k_14 w_34 => pur Tryz.prog (nilV t42_1) fun t43 => k_14 t43 w_34) (fun t43_1 w_35 => 
   gd t40 true (fun k_15 w_36 => pur Tryz.prog (Instr.fieldAt 95 t43_1 0) fun t44 => k_15 t44 w_36) (fun t44_1 w_37 => 
   gd t40 true (fun k_16 w_38 => rd Tryz.prog (Instr.loadAt 93 t44_1) (fun t45 => k_16 t45 w_38) w_38) (fun t45_1 w_39 => 
   gd t40 true (fun k_17 w_40 => k_17 t23 w_40) (fun t46_1 w_41 => 
   gd t40 true (fun k_18 w_42 => pur Tryz.prog (Instr.indexAt 93 t45_1 t46_1) fun t47 => k_18 t47 w_42) (fun t47_1 w_43 => 
   gd t40 true (fun k_19 w_44 => pur Tryz.prog (Instr.fieldAt 201 t47_1 1) fun t48 => k_19 t48 w_44) (fun t48_1 w_45 => 
   gd t40 true (fun k_20 w_46 => rd Tryz.prog (Instr.loadAt 3 t48_1) (fun t49 => k_20 t49 w_46) w_46) (fun t49_1 w_47 => 
   gd t40 true (fun k_21 w_48 => pur Tryz.prog (Instr.fieldAt 201 t5 1) fun t50 => k_21 t50 w_48) (fun t50_1 w_49 => 
   gd t40 true (fun k_22 w_50 => rd Tryz.prog (Instr.loadAt 3 t50_1) (fun t51 => k_22 t51 w_50) w_50) (fun t51_1 w_51 => 
   gd t40 true (fun k_23 w_52 => pur Tryz.prog (binS .eql 3 false false t49_1 t51_1) fun t52 => k_23 t52 w_52) (fun t52_1 w_53 => 
   pur Tryz.prog (pickS t40 t52_1 (.bool false)) fun t53 => 
   condS t53
    (pur Tryz.prog (nilV v_m) fun t55 => 
    pur Tryz.prog (Instr.fieldAt 95 t55 0) fun t56 => 
    rd Tryz.prog (Instr.loadAt 93 t56) (fun t57 => 
    pur Tryz.prog (Instr.fieldAt 201 t5 0) fun t59 => 
    pur Tryz.prog (Instr.fieldAt 72 t59 1) fun t60 => 
    rd Tryz.prog (Instr.loadAt 3 t60) (fun t61 => 
    pur Tryz.prog (Instr.indexAt 93 t57 t23) fun t62 => 
    pur Tryz.prog (Instr.fieldAt 201 t62 0) fun t63 => 
    pur Tryz.prog (Instr.fieldAt 72 t63 1) fun t64 => 
    act Tryz.prog (thenU (Instr.storeAt 3 t64 t61)) (fun _ w_54 => 
    J_1  w_54) (World.drew w_53)) (World.drew w_53)) (World.drew w_53))
    (jn 0 (fun J_2 => 
     pur Tryz.prog (nilV v_m) fun t67 => 
     pur Tryz.prog (Instr.fieldAt 95 t67 0) fun t68 => 
     rd Tryz.prog (Instr.loadAt 201 t5) (fun t70 => 
     (rd Tryz.prog (Instr.loadAt 93 t68) (fun t69 => 
     act Tryz.prog (Instr.buildSlice 93 1 #[(0, t70)]) (fun t71 w_55 => 
     act Tryz.prog (Builtin.append_ #[93, 93] 93 #[t69, t71]) (fun t72 w_56 => 
     pur Tryz.prog (nilV v_m) fun t73 => 
     pur Tryz.prog (Instr.fieldAt 95 t73 0) fun t74 => 
     act Tryz.prog (thenU (Instr.storeAt 93 t74 t72)) (fun _ w_57 => 
     J_2  w_57) w_56) w_55) (World.drew w_53)) (World.drew w_53)
     ) ∧ (act Tryz.prog (Instr.buildSlice 93 1 #[(0, t70)]) (fun t71_1 w_58 => 
     rd Tryz.prog (Instr.loadAt 93 t68) (fun t69_1 => 
     act Tryz.prog (Builtin.append_ #[93, 93] 93 #[t69_1, t71_1]) (fun t72_1 w_59 => 
     pur Tryz.prog (nilV v_m) fun t73_1 => 
     pur Tryz.prog (Instr.fieldAt 95 t73_1 0) fun t74_1 => 
     act Tryz.prog (thenU (Instr.storeAt 93 t74_1 t72_1)) (fun _ w_60 => 
     J_2  w_60) w_59) w_58) w_58) (World.drew w_53))) (World.drew w_53))
    (fun  w_61 => ∀ _j : Fr, 
     J_1  w_61))) w_51) w_49) w_47) w_45) w_43) w_41) w_39) w_37) w_35) w_33) w_31) w_29) w_27) w_25) w_23) w_21) w_19) w_17) w_15) w_13) w_11) w_9) w_7) (World.drew w_5)) w_5) w_4) w_3) w_3)
  (fun  w_62 => ∀ _j : Fr, 
   pur Tryz.prog (binS .add 3 false true t14 (.int .i64 1)) fun t75 => 
   J t75 w_62))
   (Q (.tuple #[]) w_3)) [(.int .i64 0)] w_2) w_1) w
theorem eq171 (v_m v_l : Value) (Q : Value → World → Prop) (w : World) : semF Tryz.prog 171 [v_m, v_l] Q w = S171 v_m v_l Q w := by kernel_rfl
theorem ref171 {v_m v_l : Value} {Q : Value → World → Prop} {w : World} (h : S171 v_m v_l Q w) : callS Tryz.prog 171 #[v_m, v_l] Q w :=
  callS_of mix (fun a w => Tryz.call171 a w) (by kernel_rfl) (by rw [eq171]; exact h)
-- (*commons/imap.Map[int]).without
def S172 (v_m v_s : Value) (Q : Value → World → Prop) (w : World) : Prop :=
 act Tryz.prog (Instr.box 72 v_s) (fun t3 w_1 => 
 pur Tryz.prog (nilV v_m) fun t11 => 
 pur Tryz.prog (Instr.fieldAt 95 t11 0) fun t12 => 
 rd Tryz.prog (Instr.loadAt 93 t12) (fun t13 => 
 pur Tryz.prog (Builtin.len_ #[93] 3 #[t13]) fun t14 => 
 lp 2 (fun J => fun v_out t15 w_2 => ∀ _j : Fr, 
  pur Tryz.prog (binS .lss 3 false false t15 t14) fun t16 => 
  condS t16
   (pur Tryz.prog (Instr.indexAt 93 t13 t15) fun t17 => 
  rd Tryz.prog (Instr.loadAt 201 t17) (fun t18 => 
  act Tryz.prog (Instr.alloc 201 true (.tuple #[])) (fun t7 w_3 => 
  act Tryz.prog (thenU (Instr.storeAt 201 t7 t18)) (fun _ w_4 => 
  pur Tryz.prog (Instr.fieldAt 201 t7 0) fun t19 => 
  rd Tryz.prog (Instr.loadAt 72 t19) (fun t20 => 
  act Tryz.prog (Instr.buildSlice 70 1 #[(0, t20)]) (fun t21 w_5 => 
  rd Tryz.prog (Instr.loadAt 72 t3) (fun t22 => 
  act Tryz.prog (Instr.buildSlice 70 1 #[(0, t22)]) (fun t23 w_6 => 
  callS Tryz.prog 35 #[t21, t23] (fun t24 w_7 => 
  pur Tryz.prog (Builtin.len_ #[70] 3 #[t24]) fun t25 => 
  lp 2 (fun J_1 => fun v_out_1 t26 w_8 => ∀ _j : Fr, 
   pur Tryz.prog (binS .lss 3 false false t26 t25) fun t27 => 
   condS t27
    (pur Tryz.prog (Instr.indexAt 70 t24 t26) fun t28 => 
   rd Tryz.prog (Instr.loadAt 72 t28) (fun t29 => 
   act Tryz.prog (Instr.alloc 72 true (.tuple #[])) (fun t9 w_9 => 
   act Tryz.prog (thenU (Instr.storeAt 72 t9 t29)) (fun _ w_10 => 
   rd Tryz.prog (Instr.loadAt 72 t9) (fun t31 => 
   pur Tryz.prog (Instr.fieldAt 201 t7 1) fun t32 => 
   rd Tryz.prog (Instr.loadAt 3 t32) (fun t33 => 
   pur Tryz.prog (Instr.build 201 #[(0, t31), (1, t33)]) fun t34 => 
   act Tryz.prog (Instr.buildSlice 93 1 #[(0, t34)]) (fun t35 w_11 => 
   act Tryz.prog (Builtin.append_ #[93, 93] 93 #[v_out_1, t35]) (fun t36 w_12 => 
   pur Tryz.prog (binS .add 3 false true t26 (.int .i64 1)) fun t37 => 
   J_1 t36 t37 w_12) w_11) w_10) w_10) w_10) w_9) w_8) w_8)
    (pur Tryz.prog (binS .add 3 false true t15 (.int .i64 1)) fun t38 => 
  J v_out_1 t38 w_8)) [v_out, (.int .i64 0)] w_7) w_6) w_5) w_5) w_4) w_4) w_3) w_2) w_2)
   (Q v_out w_2)) [(.slice none 0 0), (.int .i64 0)] w_1) w_1) w
theorem eq172 (v_m v_s : Value) (Q : Value → World → Prop) (w : World) : semF Tryz.prog 172 [v_m, v_s] Q w = S172 v_m v_s Q w := by kernel_rfl
theorem ref172 {v_m v_s : Value} {Q : Value → World → Prop} {w : World} (h : S172 v_m v_s Q w) : callS Tryz.prog 172 #[v_m, v_s] Q w :=
  callS_of mix (fun a w => Tryz.call172 a w) (by kernel_rfl) (by rw [eq172]; exact h)
-- slices.Clone[[]commons/imap.Part[int],commons/imap.Part[int]]
def S173 (v_s : Value) (Q : Value → World → Prop) (w : World) : Prop :=
 rd Tryz.prog (binS .eql 93 false true v_s (.slice none 0 0)) (fun t4 => 
 condS t4
  (Q (.slice none 0 0) w)
  (act Tryz.prog (Instr.buildSlice 93 0 #[]) (fun t5 w_1 => 
 act Tryz.prog (Builtin.append_ #[93, 93] 93 #[t5, v_s]) (fun t7 w_2 => 
 Q t7 w_2) w_1) w)) w
theorem eq173 (v_s : Value) (Q : Value → World → Prop) (w : World) : semF Tryz.prog 173 [v_s] Q w = S173 v_s Q w := by kernel_rfl
theorem ref173 {v_s : Value} {Q : Value → World → Prop} {w : World} (h : S173 v_s Q w) : callS Tryz.prog 173 #[v_s] Q w :=
  callS_of mix (fun a w => Tryz.call173 a w) (by kernel_rfl) (by rw [eq173]; exact h)
-- commons/mode.locks
def S179 (v_m : Value) (Q : Value → World → Prop) (w : World) : Prop :=
 callS Tryz.prog 53 #[v_m] (fun t7 w_1 => 
 pur Tryz.prog (Builtin.len_ #[93] 3 #[t7]) fun t8 => 
 lp 2 (fun J => fun v_out t9 w_2 => ∀ _j : Fr, 
  pur Tryz.prog (binS .lss 3 false false t9 t8) fun t10 => 
  condS t10
   (pur Tryz.prog (Instr.indexAt 93 t7 t9) fun t11 => 
  rd Tryz.prog (Instr.loadAt 201 t11) (fun t12 => 
  act Tryz.prog (Instr.alloc 201 true (.tuple #[])) (fun t5 w_3 => 
  act Tryz.prog (thenU (Instr.storeAt 201 t5 t12)) (fun _ w_4 => 
  pur Tryz.prog (Instr.fieldAt 201 t5 0) fun t14 => 
  rd Tryz.prog (Instr.loadAt 72 t14) (fun t15 => 
  pur Tryz.prog (Instr.fieldAt 201 t5 1) fun t16 => 
  rd Tryz.prog (Instr.loadAt 3 t16) (fun t17 => 
  pur Tryz.prog (Instr.build 143 #[(0, t15), (1, t17)]) fun t18 => 
  act Tryz.prog (Instr.buildSlice 109 1 #[(0, t18)]) (fun t19 w_5 => 
  act Tryz.prog (Builtin.append_ #[109, 109] 109 #[v_out, t19]) (fun t20 w_6 => 
  pur Tryz.prog (binS .add 3 false true t9 (.int .i64 1)) fun t21 => 
  J t20 t21 w_6) w_5) w_4) w_4) w_4) w_3) w_2) w_2)
   (Q v_out w_2)) [(.slice none 0 0), (.int .i64 0)] w_1) w
theorem eq179 (v_m : Value) (Q : Value → World → Prop) (w : World) : semF Tryz.prog 179 [v_m] Q w = S179 v_m Q w := by kernel_rfl
theorem ref179 {v_m : Value} {Q : Value → World → Prop} {w : World} (h : S179 v_m Q w) : callS Tryz.prog 179 #[v_m] Q w :=
  callS_of mix (fun a w => Tryz.call179 a w) (by kernel_rfl) (by rw [eq179]; exact h)
-- commons/mode.asked
def S180 (v_l : Value) (Q : Value → World → Prop) (w : World) : Prop :=
 callS Tryz.prog 46 #[] (fun t6 w_1 => 
 pur Tryz.prog (Builtin.len_ #[109] 3 #[v_l]) fun t8 => 
 lp 1 (fun J => fun t9 w_2 => ∀ _j : Fr, 
  pur Tryz.prog (binS .lss 3 false false t9 t8) fun t10 => 
  condS t10
   (jn 0 (fun J_1 => 
   pur Tryz.prog (Instr.indexAt 109 v_l t9) fun t11 => 
   rd Tryz.prog (Instr.loadAt 143 t11) (fun t12 => 
   act Tryz.prog (Instr.alloc 143 true (.tuple #[])) (fun t5 w_3 => 
   act Tryz.prog (thenU (Instr.storeAt 143 t5 t12)) (fun _ w_4 => 
   pur Tryz.prog (Instr.fieldAt 143 t5 1) fun t13 => 
   rd Tryz.prog (Instr.loadAt 3 t13) (fun t14 => 
   pur Tryz.prog (binS .eql 3 false true t14 (.int .i64 1)) fun t15 => 
   gd t15 false (fun k w_5 => pur Tryz.prog (Instr.fieldAt 143 t5 1) fun t17 => k t17 w_5) (fun t17_1 w_6 => 
   gd t15 false (fun k_1 w_7 => rd Tryz.prog (Instr.loadAt 3 t17_1) (fun t18 => k_1 t18 w_7) w_7) (fun t18_1 w_8 => 
   gd t15 false (fun k_2 w_9 => pur Tryz.prog (binS .eql 3 false true t18_1 (.int .i64 2)) fun t19 => k_2 t19 w_9) (fun t19_1 w_10 => 
   pur Tryz.prog (pickS t15 (.bool true) t19_1) fun t20 => 
   condS t20
    (rd Tryz.prog (Instr.loadAt 143 t5) (fun t22 => 
    callS Tryz.prog 229 #[t6, t22] (fun _ w_11 => 
    J_1  w_11) w_10) w_10)
    (J_1  w_10)) w_8) w_6) w_4) w_4) w_3) w_2) w_2)
  (fun  w_12 => ∀ _j : Fr, 
   pur Tryz.prog (binS .add 3 false true t9 (.int .i64 1)) fun t24 => 
   J t24 w_12))
   (Q t6 w_2)) [(.int .i64 0)] w_1) w
theorem eq180 (v_l : Value) (Q : Value → World → Prop) (w : World) : semF Tryz.prog 180 [v_l] Q w = S180 v_l Q w := by kernel_rfl
theorem ref180 {v_l : Value} {Q : Value → World → Prop} {w : World} (h : S180 v_l Q w) : callS Tryz.prog 180 #[v_l] Q w :=
  callS_of mix (fun a w => Tryz.call180 a w) (by kernel_rfl) (by rw [eq180]; exact h)
-- commons/commonsbook.copyLocks
def S182 (v_l : Value) (Q : Value → World → Prop) (w : World) : Prop :=
 act Tryz.prog (Builtin.append_ #[109, 109] 109 #[(.slice none 0 0), v_l]) (fun t4 w_1 => 
 Q t4 w_1) w
theorem eq182 (v_l : Value) (Q : Value → World → Prop) (w : World) : semF Tryz.prog 182 [v_l] Q w = S182 v_l Q w := by kernel_rfl
theorem ref182 {v_l : Value} {Q : Value → World → Prop} {w : World} (h : S182 v_l Q w) : callS Tryz.prog 182 #[v_l] Q w :=
  callS_of mix (fun a w => Tryz.call182 a w) (by kernel_rfl) (by rw [eq182]; exact h)
-- commons/commonsref8.ValidShape
def S183 (v_s : Value) (Q : Value → World → Prop) (w : World) : Prop :=
 act Tryz.prog (Instr.box 122 v_s) (fun t1 w_1 => 
 pur Tryz.prog (Instr.fieldAt 122 t1 0) fun t3 => 
 rd Tryz.prog (Instr.loadAt 3 t3) (fun t4 => 
 pur Tryz.prog (binS .geq 3 false true t4 (.int .i64 1)) fun t5 => 
 gd t5 true (fun k w_2 => pur Tryz.prog (Instr.fieldAt 122 t1 0) fun t7 => k t7 w_2) (fun t7_1 w_3 => 
 gd t5 true (fun k_1 w_4 => rd Tryz.prog (Instr.loadAt 3 t7_1) (fun t8 => k_1 t8 w_4) w_4) (fun t8_1 w_5 => 
 gd t5 true (fun k_2 w_6 => pur Tryz.prog (binS .leq 3 false true t8_1 (.int .i64 16)) fun t9 => k_2 t9 w_6) (fun t9_1 w_7 => 
 pur Tryz.prog (pickS t5 t9_1 (.bool false)) fun t10 => 
 gd t10 true (fun k_3 w_8 => pur Tryz.prog (Instr.fieldAt 122 t1 1) fun t12 => k_3 t12 w_8) (fun t12_1 w_9 => 
 gd t10 true (fun k_4 w_10 => rd Tryz.prog (Instr.loadAt 3 t12_1) (fun t13 => k_4 t13 w_10) w_10) (fun t13_1 w_11 => 
 gd t10 true (fun k_5 w_12 => pur Tryz.prog (binS .geq 3 false true t13_1 (.int .i64 1)) fun t14 => k_5 t14 w_12) (fun t14_1 w_13 => 
 pur Tryz.prog (pickS t10 t14_1 (.bool false)) fun t15 => 
 gd t15 true (fun k_6 w_14 => pur Tryz.prog (Instr.fieldAt 122 t1 1) fun t17 => k_6 t17 w_14) (fun t17_1 w_15 => 
 gd t15 true (fun k_7 w_16 => rd Tryz.prog (Instr.loadAt 3 t17_1) (fun t18 => k_7 t18 w_16) w_16) (fun t18_1 w_17 => 
 gd t15 true (fun k_8 w_18 => pur Tryz.prog (binS .leq 3 false true t18_1 (.int .i64 4096)) fun t19 => k_8 t19 w_18) (fun t19_1 w_19 => 
 pur Tryz.prog (pickS t15 t19_1 (.bool false)) fun t20 => 
 gd t20 true (fun k_9 w_20 => pur Tryz.prog (Instr.fieldAt 122 t1 2) fun t22 => k_9 t22 w_20) (fun t22_1 w_21 => 
 gd t20 true (fun k_10 w_22 => rd Tryz.prog (Instr.loadAt 3 t22_1) (fun t23 => k_10 t23 w_22) w_22) (fun t23_1 w_23 => 
 gd t20 true (fun k_11 w_24 => pur Tryz.prog (binS .geq 3 false true t23_1 (.int .i64 8)) fun t24 => k_11 t24 w_24) (fun t24_1 w_25 => 
 pur Tryz.prog (pickS t20 t24_1 (.bool false)) fun t25 => 
 gd t25 true (fun k_12 w_26 => pur Tryz.prog (Instr.fieldAt 122 t1 2) fun t27 => k_12 t27 w_26) (fun t27_1 w_27 => 
 gd t25 true (fun k_13 w_28 => rd Tryz.prog (Instr.loadAt 3 t27_1) (fun t28 => k_13 t28 w_28) w_28) (fun t28_1 w_29 => 
 gd t25 true (fun k_14 w_30 => pur Tryz.prog (binS .leq 3 false true t28_1 (.int .i64 256)) fun t29 => k_14 t29 w_30) (fun t29_1 w_31 => 
 pur Tryz.prog (pickS t25 t29_1 (.bool false)) fun t30 => 
 gd t30 true (fun k_15 w_32 => pur Tryz.prog (Instr.fieldAt 122 t1 3) fun t32 => k_15 t32 w_32) (fun t32_1 w_33 => 
 gd t30 true (fun k_16 w_34 => rd Tryz.prog (Instr.loadAt 3 t32_1) (fun t33 => k_16 t33 w_34) w_34) (fun t33_1 w_35 => 
 gd t30 true (fun k_17 w_36 => pur Tryz.prog (binS .geq 3 false true t33_1 (.int .i64 2)) fun t34 => k_17 t34 w_36) (fun t34_1 w_37 => 
 pur Tryz.prog (pickS t30 t34_1 (.bool false)) fun t35 => 
 gd t35 true (fun k_18 w_38 => pur Tryz.prog (Instr.fieldAt 122 t1 3) fun t37 => k_18 t37 w_38) (fun t37_1 w_39 => 
 gd t35 true (fun k_19 w_40 => rd Tryz.prog (Instr.loadAt 3 t37_1) (fun t38 => k_19 t38 w_40) w_40) (fun t38_1 w_41 => 
 gd t35 true (fun k_20 w_42 => pur Tryz.prog (binS .leq 3 false true t38_1 (.int .i64 1000)) fun t39 => k_20 t39 w_42) (fun t39_1 w_43 => 
 pur Tryz.prog (pickS t35 t39_1 (.bool false)) fun t40 => 
 gd t40 true (fun k_21 w_44 => pur Tryz.prog (Instr.fieldAt 122 t1 4) fun t42 => k_21 t42 w_44) (fun t42_1 w_45 => 
 gd t40 true (fun k_22 w_46 => rd Tryz.prog (Instr.loadAt 3 t42_1) (fun t43 => k_22 t43 w_46) w_46) (fun t43_1 w_47 => 
 gd t40 true (fun k_23 w_48 => pur Tryz.prog (binS .geq 3 false true t43_1 (.int .i64 32)) fun t44 => k_23 t44 w_48) (fun t44_1 w_49 => 
 pur Tryz.prog (pickS t40 t44_1 (.bool false)) fun t45 => 
 gd t45 true (fun k_24 w_50 => pur Tryz.prog (Instr.fieldAt 122 t1 4) fun t47 => k_24 t47 w_50) (fun t47_1 w_51 => 
 gd t45 true (fun k_25 w_52 => rd Tryz.prog (Instr.loadAt 3 t47_1) (fun t48 => k_25 t48 w_52) w_52) (fun t48_1 w_53 => 
 gd t45 true (fun k_26 w_54 => pur Tryz.prog (binS .leq 3 false true t48_1 (.int .i64 1000)) fun t49 => k_26 t49 w_54) (fun t49_1 w_55 => 
 pur Tryz.prog (pickS t45 t49_1 (.bool false)) fun t50 => 
 Q t50 w_55) w_53) w_51) w_49) w_47) w_45) w_43) w_41) w_39) w_37) w_35) w_33) w_31) w_29) w_27) w_25) w_23) w_21) w_19) w_17) w_15) w_13) w_11) w_9) w_7) w_5) w_3) w_1) w_1) w
theorem eq183 (v_s : Value) (Q : Value → World → Prop) (w : World) : semF Tryz.prog 183 [v_s] Q w = S183 v_s Q w := by kernel_rfl
theorem ref183 {v_s : Value} {Q : Value → World → Prop} {w : World} (h : S183 v_s Q w) : callS Tryz.prog 183 #[v_s] Q w :=
  callS_of mix (fun a w => Tryz.call183 a w) (by kernel_rfl) (by rw [eq183]; exact h)
-- commons/super.Valid
def S184 (v_s : Value) (Q : Value → World → Prop) (w : World) : Prop :=
 act Tryz.prog (Instr.box 122 v_s) (fun t1 w_1 => 
 pur Tryz.prog (Instr.fieldAt 122 t1 0) fun t3 => 
 rd Tryz.prog (Instr.loadAt 3 t3) (fun t4 => 
 callS Tryz.prog 230 #[t4, (.int .i64 1), (.int .i64 16)] (fun t5 w_2 => 
 gd t5 true (fun k w_3 => pur Tryz.prog (Instr.fieldAt 122 t1 1) fun t7 => k t7 w_3) (fun t7_1 w_4 => 
 gd t5 true (fun k_1 w_5 => rd Tryz.prog (Instr.loadAt 3 t7_1) (fun t8 => k_1 t8 w_5) w_5) (fun t8_1 w_6 => 
 gd t5 true (fun k_2 w_7 => callS Tryz.prog 230 #[t8_1, (.int .i64 1), (.int .i64 4096)] (fun t9 w_8 => k_2 t9 w_8) w_7) (fun t9_1 w_9 => 
 pur Tryz.prog (pickS t5 t9_1 (.bool false)) fun t10 => 
 gd t10 true (fun k_3 w_10 => pur Tryz.prog (Instr.fieldAt 122 t1 2) fun t12 => k_3 t12 w_10) (fun t12_1 w_11 => 
 gd t10 true (fun k_4 w_12 => rd Tryz.prog (Instr.loadAt 3 t12_1) (fun t13 => k_4 t13 w_12) w_12) (fun t13_1 w_13 => 
 gd t10 true (fun k_5 w_14 => callS Tryz.prog 230 #[t13_1, (.int .i64 8), (.int .i64 256)] (fun t14 w_15 => k_5 t14 w_15) w_14) (fun t14_1 w_16 => 
 pur Tryz.prog (pickS t10 t14_1 (.bool false)) fun t15 => 
 gd t15 true (fun k_6 w_17 => pur Tryz.prog (Instr.fieldAt 122 t1 3) fun t17 => k_6 t17 w_17) (fun t17_1 w_18 => 
 gd t15 true (fun k_7 w_19 => rd Tryz.prog (Instr.loadAt 3 t17_1) (fun t18 => k_7 t18 w_19) w_19) (fun t18_1 w_20 => 
 gd t15 true (fun k_8 w_21 => callS Tryz.prog 230 #[t18_1, (.int .i64 2), (.int .i64 1000)] (fun t19 w_22 => k_8 t19 w_22) w_21) (fun t19_1 w_23 => 
 pur Tryz.prog (pickS t15 t19_1 (.bool false)) fun t20 => 
 gd t20 true (fun k_9 w_24 => pur Tryz.prog (Instr.fieldAt 122 t1 4) fun t22 => k_9 t22 w_24) (fun t22_1 w_25 => 
 gd t20 true (fun k_10 w_26 => rd Tryz.prog (Instr.loadAt 3 t22_1) (fun t23 => k_10 t23 w_26) w_26) (fun t23_1 w_27 => 
 gd t20 true (fun k_11 w_28 => callS Tryz.prog 230 #[t23_1, (.int .i64 32), (.int .i64 1000)] (fun t24 w_29 => k_11 t24 w_29) w_28) (fun t24_1 w_30 => 
 pur Tryz.prog (pickS t20 t24_1 (.bool false)) fun t25 => 
 Q t25 w_30) w_27) w_25) w_23) w_20) w_18) w_16) w_13) w_11) w_9) w_6) w_4) w_2) w_1) w_1) w
theorem eq184 (v_s : Value) (Q : Value → World → Prop) (w : World) : semF Tryz.prog 184 [v_s] Q w = S184 v_s Q w := by kernel_rfl
theorem ref184 {v_s : Value} {Q : Value → World → Prop} {w : World} (h : S184 v_s Q w) : callS Tryz.prog 184 #[v_s] Q w :=
  callS_of mix (fun a w => Tryz.call184 a w) (by kernel_rfl) (by rw [eq184]; exact h)
-- commons/commonsref8.Sectors
def S185 (v_n : Value) (Q : Value → World → Prop) (w : World) : Prop :=
 pur Tryz.prog (binS .lss 3 false true v_n (.int .i64 1)) fun t4 => 
 gd t4 false (fun k w_1 => k v_n w_1) (fun t6_1 w_2 => 
 gd t4 false (fun k_1 w_3 => pur Tryz.prog (binS .gtr 3 false true t6_1 (.int .i64 60)) fun t7 => k_1 t7 w_3) (fun t7_1 w_4 => 
 pur Tryz.prog (pickS t4 (.bool true) t7_1) fun t8 => 
 condS t8
  (Q (.int .i64 0) w_4)
  (pur Tryz.prog (binS .mul 3 true false (.int .i64 108) v_n) fun t10 => 
 pur Tryz.prog (binS .add 3 false true t10 (.int .i64 41)) fun t11 => 
 pur Tryz.prog (binS .quo 3 false true t11 (.int .i64 42)) fun t12 => 
 Q t12 w_4)) w_2) w
theorem eq185 (v_n : Value) (Q : Value → World → Prop) (w : World) : semF Tryz.prog 185 [v_n] Q w = S185 v_n Q w := by kernel_rfl
theorem ref185 {v_n : Value} {Q : Value → World → Prop} {w : World} (h : S185 v_n Q w) : callS Tryz.prog 185 #[v_n] Q w :=
  callS_of mix (fun a w => Tryz.call185 a w) (by kernel_rfl) (by rw [eq185]; exact h)
-- commons/block.Pad
def S186 (v_s : Value) (Q : Value → World → Prop) (w : World) : Prop :=
 pur Tryz.prog (Builtin.len_ #[9] 3 #[v_s]) fun t5 => 
 pur Tryz.prog (binS .gtr 3 false true t5 (.int .i64 96)) fun t6 => 
 condS t6
  (Q (.tuple #[(.string ⟨#[]⟩), (.int .i64 2)]) w)
  (pur Tryz.prog (Builtin.len_ #[9] 3 #[v_s]) fun t9 => 
 pur Tryz.prog (binS .sub 3 true false (.int .i64 96) t9) fun t10 => 
 callS Tryz.prog 231 #[t10] (fun t11 w_1 => 
 pur Tryz.prog (binS .add 9 false false v_s t11) fun t12 => 
 Q (.tuple #[t12, (.int .i64 0)]) w_1) w)
theorem eq186 (v_s : Value) (Q : Value → World → Prop) (w : World) : semF Tryz.prog 186 [v_s] Q w = S186 v_s Q w := by kernel_rfl
theorem ref186 {v_s : Value} {Q : Value → World → Prop} {w : World} (h : S186 v_s Q w) : callS Tryz.prog 186 #[v_s] Q w :=
  callS_of mix (fun a w => Tryz.call186 a w) (by kernel_rfl) (by rw [eq186]; exact h)
-- commons/rec.Most
def S187 (v_log : Value) (Q : Value → World → Prop) (w : World) : Prop :=
 pur Tryz.prog (binS .lss 3 false true v_log (.int .i64 1)) fun t5 => 
 gd t5 false (fun k w_1 => k v_log w_1) (fun t7_1 w_2 => 
 gd t5 false (fun k_1 w_3 => pur Tryz.prog (binS .gtr 3 false true t7_1 (.int .i64 100000)) fun t8 => k_1 t8 w_3) (fun t8_1 w_4 => 
 pur Tryz.prog (pickS t5 (.bool true) t8_1) fun t9 => 
 condS t9
  (Q (.int .i64 0) w_4)
  (lp 1 (fun J => fun v_n w_5 => ∀ _j : Fr, 
  pur Tryz.prog (binS .lss 3 false true v_n (.int .i64 60)) fun t11 => 
  gd t11 true (fun k_2 w_6 => k_2 v_n w_6) (fun t13_1 w_7 => 
  gd t11 true (fun k_3 w_8 => pur Tryz.prog (binS .add 3 false true t13_1 (.int .i64 1)) fun t14 => k_3 t14 w_8) (fun t14_1 w_9 => 
  gd t11 true (fun k_4 w_10 => callS Tryz.prog 232 #[t14_1] (fun t15 w_11 => k_4 t15 w_11) w_10) (fun t15_1 w_12 => 
  gd t11 true (fun k_5 w_13 => k_5 v_log w_13) (fun t16_1 w_14 => 
  gd t11 true (fun k_6 w_15 => pur Tryz.prog (binS .sub 3 false true t16_1 (.int .i64 1)) fun t17 => k_6 t17 w_15) (fun t17_1 w_16 => 
  gd t11 true (fun k_7 w_17 => pur Tryz.prog (binS .quo 3 false true t17_1 (.int .i64 2)) fun t18 => k_7 t18 w_17) (fun t18_1 w_18 => 
  gd t11 true (fun k_8 w_19 => pur Tryz.prog (binS .leq 3 false false t15_1 t18_1) fun t19 => k_8 t19 w_19) (fun t19_1 w_20 => 
  pur Tryz.prog (pickS t11 t19_1 (.bool false)) fun t20 => 
  condS t20
   (pur Tryz.prog (binS .add 3 false true v_n (.int .i64 1)) fun t22 => 
  J t22 w_20)
   (Q v_n w_20)) w_18) w_16) w_14) w_12) w_9) w_7) w_5) [(.int .i64 0)] w_4)) w_2) w
theorem eq187 (v_log : Value) (Q : Value → World → Prop) (w : World) : semF Tryz.prog 187 [v_log] Q w = S187 v_log Q w := by kernel_rfl
theorem ref187 {v_log : Value} {Q : Value → World → Prop} {w : World} (h : S187 v_log Q w) : callS Tryz.prog 187 #[v_log] Q w :=
  callS_of mix (fun a w => Tryz.call187 a w) (by kernel_rfl) (by rw [eq187]; exact h)
-- (*commons/tx.Tx).none
def S188 (v_t : Value) (Q : Value → World → Prop) (w : World) : Prop :=
 rd Tryz.prog (binS .eql 125 false true v_t (.pointer none)) (fun t4 => 
 gd t4 false (fun k w_1 => k v_t w_1) (fun t6_1 w_2 => 
 gd t4 false (fun k_1 w_3 => pur Tryz.prog (nilV t6_1) fun t7 => k_1 t7 w_3) (fun t7_1 w_4 => 
 gd t4 false (fun k_2 w_5 => pur Tryz.prog (Instr.fieldAt 210 t7_1 1) fun t8 => k_2 t8 w_5) (fun t8_1 w_6 => 
 gd t4 false (fun k_3 w_7 => rd Tryz.prog (Instr.loadAt 89 t8_1) (fun t9 => k_3 t9 w_7) w_7) (fun t9_1 w_8 => 
 gd t4 false (fun k_4 w_9 => rd Tryz.prog (binS .eql 89 false true t9_1 (.pointer none)) (fun t10 => k_4 t10 w_9) w_9) (fun t10_1 w_10 => 
 pur Tryz.prog (pickS t4 (.bool true) t10_1) fun t11 => 
 Q t11 w_10) w_8) w_6) w_4) w_2) w) w
theorem eq188 (v_t : Value) (Q : Value → World → Prop) (w : World) : semF Tryz.prog 188 [v_t] Q w = S188 v_t Q w := by kernel_rfl
theorem ref188 {v_t : Value} {Q : Value → World → Prop} {w : World} (h : S188 v_t Q w) : callS Tryz.prog 188 #[v_t] Q w :=
  callS_of mix (fun a w => Tryz.call188 a w) (by kernel_rfl) (by rw [eq188]; exact h)
-- strings.Clone
def S189 (v_s : Value) (Q : Value → World → Prop) (w : World) : Prop :=
 callS Tryz.prog 233 #[v_s] (fun t4 w_1 => 
 Q t4 w_1) w
theorem eq189 (v_s : Value) (Q : Value → World → Prop) (w : World) : semF Tryz.prog 189 [v_s] Q w = S189 v_s Q w := by kernel_rfl
theorem ref189 {v_s : Value} {Q : Value → World → Prop} {w : World} (h : S189 v_s Q w) : callS Tryz.prog 189 #[v_s] Q w :=
  callS_of mix (fun a w => Tryz.call189 a w) (by kernel_rfl) (by rw [eq189]; exact h)
-- commons/tx.images
def S190 (v_m : Value) (Q : Value → World → Prop) (w : World) : Prop :=
 callS Tryz.prog 235 #[v_m] (fun t7 w_1 => 
 callS Tryz.prog 234 #[t7] (fun t8 w_2 => 
 pur Tryz.prog (Builtin.len_ #[64] 3 #[t8]) fun t9 => 
 lp 2 (fun J => fun v_out t10 w_3 => ∀ _j : Fr, 
  pur Tryz.prog (binS .lss 3 false false t10 t9) fun t11 => 
  condS t11
   (pur Tryz.prog (Instr.indexAt 64 t8 t10) fun t12 => 
  rd Tryz.prog (Instr.loadAt 3 t12) (fun t13 => 
  rd Tryz.prog (Instr.lookup 208 v_m t13 false) (fun t18 => 
  pur Tryz.prog (Instr.build 138 #[(0, t13), (2, t18)]) fun t19 => 
  act Tryz.prog (Instr.buildSlice 131 1 #[(0, t19)]) (fun t20 w_4 => 
  act Tryz.prog (Builtin.append_ #[131, 131] 131 #[v_out, t20]) (fun t21 w_5 => 
  pur Tryz.prog (binS .add 3 false true t10 (.int .i64 1)) fun t22 => 
  J t21 t22 w_5) w_4) w_3) w_3) w_3)
   (Q v_out w_3)) [(.slice none 0 0), (.int .i64 0)] w_2) w_1) w
theorem eq190 (v_m : Value) (Q : Value → World → Prop) (w : World) : semF Tryz.prog 190 [v_m] Q w = S190 v_m Q w := by kernel_rfl
theorem ref190 {v_m : Value} {Q : Value → World → Prop} {w : World} (h : S190 v_m Q w) : callS Tryz.prog 190 #[v_m] Q w :=
  callS_of mix (fun a w => Tryz.call190 a w) (by kernel_rfl) (by rw [eq190]; exact h)
-- commons/commonsbook.copyImages
def S191 (v_l : Value) (Q : Value → World → Prop) (w : World) : Prop :=
 act Tryz.prog (Builtin.append_ #[131, 131] 131 #[(.slice none 0 0), v_l]) (fun t4 w_1 => 
 Q t4 w_1) w
theorem eq191 (v_l : Value) (Q : Value → World → Prop) (w : World) : semF Tryz.prog 191 [v_l] Q w = S191 v_l Q w := by kernel_rfl
theorem ref191 {v_l : Value} {Q : Value → World → Prop} {w : World} (h : S191 v_l Q w) : callS Tryz.prog 191 #[v_l] Q w :=
  callS_of mix (fun a w => Tryz.call191 a w) (by kernel_rfl) (by rw [eq191]; exact h)
-- commons/commonsbook.markLocks
def S213 (v_i v_from v_n : Value) (Q : Value → World → Prop) (w : World) : Prop :=
 lp 2 (fun J => fun v_out v_k w_1 => ∀ _j : Fr, 
  pur Tryz.prog (binS .add 3 false false v_from v_n) fun t13 => 
  pur Tryz.prog (binS .lss 3 false false v_k t13) fun t14 => 
  condS t14
   (pur Tryz.prog (binS .sub 3 true false (.int .i64 (-1)) v_i) fun t19 => 
  pur Tryz.prog (Instr.build 72 #[(0, v_k)]) fun t21 => 
  pur Tryz.prog (Instr.build 143 #[(1, t19), (0, t21)]) fun t22 => 
  act Tryz.prog (Instr.buildSlice 109 1 #[(0, t22)]) (fun t23 w_2 => 
  act Tryz.prog (Builtin.append_ #[109, 109] 109 #[v_out, t23]) (fun t24 w_3 => 
  pur Tryz.prog (binS .add 3 false true v_k (.int .i64 1)) fun t16 => 
  J t24 t16 w_3) w_2) w_1)
   (Q v_out w_1)) [(.slice none 0 0), v_from] w
theorem eq213 (v_i v_from v_n : Value) (Q : Value → World → Prop) (w : World) : semF Tryz.prog 213 [v_i, v_from, v_n] Q w = S213 v_i v_from v_n Q w := by kernel_rfl
theorem ref213 {v_i v_from v_n : Value} {Q : Value → World → Prop} {w : World} (h : S213 v_i v_from v_n Q w) : callS Tryz.prog 213 #[v_i, v_from, v_n] Q w :=
  callS_of mix (fun a w => Tryz.call213 a w) (by kernel_rfl) (by rw [eq213]; exact h)
-- commons/commonsbook.markImages
def S214 (v_i v_from v_n : Value) (Q : Value → World → Prop) (w : World) : Prop :=
 lp 2 (fun J => fun v_out v_k w_1 => ∀ _j : Fr, 
  pur Tryz.prog (binS .add 3 false false v_from v_n) fun t13 => 
  pur Tryz.prog (binS .lss 3 false false v_k t13) fun t14 => 
  condS t14
   (pur Tryz.prog (binS .sub 3 true false (.int .i64 (-1)) v_i) fun t19 => 
  pur Tryz.prog (convert 3 136 v_k) fun t21 => 
  pur Tryz.prog (Instr.build 138 #[(0, t19), (1, t21)]) fun t22 => 
  act Tryz.prog (Instr.buildSlice 131 1 #[(0, t22)]) (fun t23 w_2 => 
  act Tryz.prog (Builtin.append_ #[131, 131] 131 #[v_out, t23]) (fun t24 w_3 => 
  pur Tryz.prog (binS .add 3 false true v_k (.int .i64 1)) fun t16 => 
  J t24 t16 w_3) w_2) w_1)
   (Q v_out w_1)) [(.slice none 0 0), v_from] w
theorem eq214 (v_i v_from v_n : Value) (Q : Value → World → Prop) (w : World) : semF Tryz.prog 214 [v_i, v_from, v_n] Q w = S214 v_i v_from v_n Q w := by kernel_rfl
theorem ref214 {v_i v_from v_n : Value} {Q : Value → World → Prop} {w : World} (h : S214 v_i v_from v_n Q w) : callS Tryz.prog 214 #[v_i, v_from, v_n] Q w :=
  callS_of mix (fun a w => Tryz.call214 a w) (by kernel_rfl) (by rw [eq214]; exact h)
-- slices.IndexFunc[[]commons/api.Span,commons/api.Span]
def S221 (v_s v_f : Value) (Q : Value → World → Prop) (w : World) : Prop :=
 pur Tryz.prog (Builtin.len_ #[70] 3 #[v_s]) fun t7 => 
 lp 1 (fun J => fun t8 w_1 => ∀ _j : Fr, 
  pur Tryz.prog (binS .lss 3 false false t8 t7) fun t9 => 
  condS t9
   (pur Tryz.prog (Instr.indexAt 70 v_s t8) fun t14 => 
  rd Tryz.prog (Instr.loadAt 72 t14) (fun t15 => 
  callF Tryz.prog v_f #[t15] (fun t16 w_2 => 
  condS t16
   (Q t8 w_2)
   (pur Tryz.prog (binS .add 3 false true t8 (.int .i64 1)) fun t18 => 
  J t18 w_2)) w_1) w_1)
   (Q (.int .i64 (-1)) w_1)) [(.int .i64 0)] w
theorem eq221 (v_s v_f : Value) (Q : Value → World → Prop) (w : World) : semF Tryz.prog 221 [v_s, v_f] Q w = S221 v_s v_f Q w := by kernel_rfl
theorem ref221 {v_s v_f : Value} {Q : Value → World → Prop} {w : World} (h : S221 v_s v_f Q w) : callS Tryz.prog 221 #[v_s, v_f] Q w :=
  callS_of mix (fun a w => Tryz.call221 a w) (by kernel_rfl) (by rw [eq221]; exact h)
-- cmp.isNaN[int]
def S224 (v_x : Value) (Q : Value → World → Prop) (w : World) : Prop :=
 pur Tryz.prog (binS .neq 3 false false v_x v_x) fun t5 => 
 Q t5 w
theorem eq224 (v_x : Value) (Q : Value → World → Prop) (w : World) : semF Tryz.prog 224 [v_x] Q w = S224 v_x Q w := by kernel_rfl
theorem ref224 {v_x : Value} {Q : Value → World → Prop} {w : World} (h : S224 v_x Q w) : callS Tryz.prog 224 #[v_x] Q w :=
  callS_of mix (fun a w => Tryz.call224 a w) (by kernel_rfl) (by rw [eq224]; exact h)
-- (*commons/imap.Map[int]).lay$1
def S227 (v_a v_b : Value) (Q : Value → World → Prop) (w : World) : Prop :=
 act Tryz.prog (Instr.box 201 v_a) (fun t2 w_1 => 
 act Tryz.prog (Instr.box 201 v_b) (fun t3 w_2 => 
 pur Tryz.prog (Instr.fieldAt 201 t2 0) fun t5 => 
 pur Tryz.prog (Instr.fieldAt 72 t5 0) fun t6 => 
 rd Tryz.prog (Instr.loadAt 3 t6) (fun t7 => 
 pur Tryz.prog (Instr.fieldAt 201 t3 0) fun t8 => 
 pur Tryz.prog (Instr.fieldAt 72 t8 0) fun t9 => 
 rd Tryz.prog (Instr.loadAt 3 t9) (fun t10 => 
 callS Tryz.prog 168 #[t7, t10] (fun t11 w_3 => 
 Q t11 w_3) w_2) w_2) w_2) w_1) w
theorem eq227 (v_a v_b : Value) (Q : Value → World → Prop) (w : World) : semF Tryz.prog 227 [v_a, v_b] Q w = S227 v_a v_b Q w := by kernel_rfl
theorem ref227 {v_a v_b : Value} {Q : Value → World → Prop} {w : World} (h : S227 v_a v_b Q w) : callS Tryz.prog 227 #[v_a, v_b] Q w :=
  callS_of mix (fun a w => Tryz.call227 a w) (by kernel_rfl) (by rw [eq227]; exact h)
-- commons/mode.Raise
def S229 (v_m v_l : Value) (Q : Value → World → Prop) (w : World) : Prop :=
 act Tryz.prog (Instr.box 143 v_l) (fun t3 w_1 => 
 pur Tryz.prog (Instr.fieldAt 143 t3 0) fun t8 => 
 rd Tryz.prog (Instr.loadAt 72 t8) (fun t9 => 
 callS Tryz.prog 54 #[v_m, t9] (fun t10 w_2 => 
 pur Tryz.prog (Instr.fieldAt 143 t3 0) fun t12 => 
 rd Tryz.prog (Instr.loadAt 72 t12) (fun t13 => 
 pur Tryz.prog (Instr.fieldAt 143 t3 1) fun t14 => 
 rd Tryz.prog (Instr.loadAt 3 t14) (fun t15 => 
 callS Tryz.prog 47 #[v_m, t13, t15] (fun _ w_3 => 
 pur Tryz.prog (Builtin.len_ #[93] 3 #[t10]) fun t18 => 
 lp 1 (fun J => fun t19 w_4 => ∀ _j : Fr, 
  pur Tryz.prog (binS .lss 3 false false t19 t18) fun t20 => 
  condS t20
   (pur Tryz.prog (Instr.indexAt 93 t10 t19) fun t21 => 
  rd Tryz.prog (Instr.loadAt 201 t21) (fun t22 => 
  act Tryz.prog (Instr.alloc 201 true (.tuple #[])) (fun t6 w_5 => 
  act Tryz.prog (thenU (Instr.storeAt 201 t6 t22)) (fun _ w_6 => 
  ∃ S : World → Prop, S (World.drew w_6) ∧ 
  pur Tryz.prog (Instr.fieldAt 201 t6 0) fun t24 => 
  hld Tryz.prog S (Instr.loadAt 72 t24) fun t25 => 
  pur Tryz.prog (Instr.fieldAt 201 t6 1) fun t26 => 
  hld Tryz.prog S (Instr.loadAt 3 t26) fun t27 => 
  pur Tryz.prog (Instr.fieldAt 143 t3 1) fun t28 => 
  hld Tryz.prog S (Instr.loadAt 3 t28) fun t29 => 
  callS Tryz.prog 251 #[t27, t29] (fun t30 w_7 => S w_7 ∧ 
  callS Tryz.prog 47 #[v_m, t25, t30] (fun _ w_8 => S w_8 ∧ 
  pur Tryz.prog (binS .add 3 false true t19 (.int .i64 1)) fun t32 => 
  J t32 w_8) w_7) (World.drew w_6)) w_5) w_4) w_4)
   (Q (.tuple #[]) w_4)) [(.int .i64 0)] w_3) w_2) w_2) w_2) w_1) w_1) w
theorem eq229 (v_m v_l : Value) (Q : Value → World → Prop) (w : World) : semF Tryz.prog 229 [v_m, v_l] Q w = S229 v_m v_l Q w := by kernel_rfl
theorem ref229 {v_m v_l : Value} {Q : Value → World → Prop} {w : World} (h : S229 v_m v_l Q w) : callS Tryz.prog 229 #[v_m, v_l] Q w :=
  callS_of mix (fun a w => Tryz.call229 a w) (by kernel_rfl) (by rw [eq229]; exact h)
-- commons/super.in
def S230 (v_n v_least v_most : Value) (Q : Value → World → Prop) (w : World) : Prop :=
 pur Tryz.prog (binS .geq 3 false false v_n v_least) fun t9 => 
 gd t9 true (fun k w_1 => k v_n w_1) (fun t11_1 w_2 => 
 gd t9 true (fun k_1 w_3 => k_1 v_most w_3) (fun t12_1 w_4 => 
 gd t9 true (fun k_2 w_5 => pur Tryz.prog (binS .leq 3 false false t11_1 t12_1) fun t13 => k_2 t13 w_5) (fun t13_1 w_6 => 
 pur Tryz.prog (pickS t9 t13_1 (.bool false)) fun t14 => 
 Q t14 w_6) w_4) w_2) w
theorem eq230 (v_n v_least v_most : Value) (Q : Value → World → Prop) (w : World) : semF Tryz.prog 230 [v_n, v_least, v_most] Q w = S230 v_n v_least v_most Q w := by kernel_rfl
theorem ref230 {v_n v_least v_most : Value} {Q : Value → World → Prop} {w : World} (h : S230 v_n v_least v_most Q w) : callS Tryz.prog 230 #[v_n, v_least, v_most] Q w :=
  callS_of mix (fun a w => Tryz.call230 a w) (by kernel_rfl) (by rw [eq230]; exact h)
-- commons/block.zero
def S231 (v_n : Value) (Q : Value → World → Prop) (w : World) : Prop :=
 callS Tryz.prog 252 #[(.string ⟨#[0]⟩), v_n] (fun t4 w_1 => 
 Q t4 w_1) w
theorem eq231 (v_n : Value) (Q : Value → World → Prop) (w : World) : semF Tryz.prog 231 [v_n] Q w = S231 v_n Q w := by kernel_rfl
theorem ref231 {v_n : Value} {Q : Value → World → Prop} {w : World} (h : S231 v_n Q w) : callS Tryz.prog 231 #[v_n] Q w :=
  callS_of mix (fun a w => Tryz.call231 a w) (by kernel_rfl) (by rw [eq231]; exact h)
-- commons/rec.Sectors
def S232 (v_images : Value) (Q : Value → World → Prop) (w : World) : Prop :=
 pur Tryz.prog (binS .lss 3 false true v_images (.int .i64 1)) fun t4 => 
 gd t4 false (fun k w_1 => k v_images w_1) (fun t6_1 w_2 => 
 gd t4 false (fun k_1 w_3 => pur Tryz.prog (binS .gtr 3 false true t6_1 (.int .i64 60)) fun t7 => k_1 t7 w_3) (fun t7_1 w_4 => 
 pur Tryz.prog (pickS t4 (.bool true) t7_1) fun t8 => 
 condS t8
  (Q (.int .i64 0) w_4)
  (pur Tryz.prog (binS .mul 3 true false (.int .i64 108) v_images) fun t10 => 
 pur Tryz.prog (binS .add 3 false true t10 (.int .i64 42)) fun t11 => 
 pur Tryz.prog (binS .sub 3 false true t11 (.int .i64 1)) fun t12 => 
 pur Tryz.prog (binS .quo 3 false true t12 (.int .i64 42)) fun t13 => 
 Q t13 w_4)) w_2) w
theorem eq232 (v_images : Value) (Q : Value → World → Prop) (w : World) : semF Tryz.prog 232 [v_images] Q w = S232 v_images Q w := by kernel_rfl
theorem ref232 {v_images : Value} {Q : Value → World → Prop} {w : World} (h : S232 v_images Q w) : callS Tryz.prog 232 #[v_images] Q w :=
  callS_of mix (fun a w => Tryz.call232 a w) (by kernel_rfl) (by rw [eq232]; exact h)
-- slices.Sorted[int]
def S234 (v_seq : Value) (Q : Value → World → Prop) (w : World) : Prop :=
 callS Tryz.prog 253 #[v_seq] (fun t5 w_1 => 
 callS Tryz.prog 254 #[t5] (fun _ w_2 => 
 Q t5 w_2) w_1) w
theorem eq234 (v_seq : Value) (Q : Value → World → Prop) (w : World) : semF Tryz.prog 234 [v_seq] Q w = S234 v_seq Q w := by kernel_rfl
theorem ref234 {v_seq : Value} {Q : Value → World → Prop} {w : World} (h : S234 v_seq Q w) : callS Tryz.prog 234 #[v_seq] Q w :=
  callS_of mix (fun a w => Tryz.call234 a w) (by kernel_rfl) (by rw [eq234]; exact h)
-- maps.Keys[map[int]string,int,string]
def S235 (v_m : Value) (Q : Value → World → Prop) (w : World) : Prop :=
 act Tryz.prog (Instr.box 208 v_m) (fun t1 w_1 => 
 pur Tryz.prog (pure (.func (.func 255) #[] #[t1])) fun t3 => 
 Q t3 w_1) w
theorem eq235 (v_m : Value) (Q : Value → World → Prop) (w : World) : semF Tryz.prog 235 [v_m] Q w = S235 v_m Q w := by kernel_rfl
theorem ref235 {v_m : Value} {Q : Value → World → Prop} {w : World} (h : S235 v_m Q w) : callS Tryz.prog 235 #[v_m] Q w :=
  callS_of mix (fun a w => Tryz.call235 a w) (by kernel_rfl) (by rw [eq235]; exact h)
-- commons/mode.Join
def S251 (v_a v_b : Value) (Q : Value → World → Prop) (w : World) : Prop :=
 pur Tryz.prog (Builtin.max_ #[3, 3] 3 #[v_a, v_b]) fun t7 => 
 Q t7 w
theorem eq251 (v_a v_b : Value) (Q : Value → World → Prop) (w : World) : semF Tryz.prog 251 [v_a, v_b] Q w = S251 v_a v_b Q w := by kernel_rfl
theorem ref251 {v_a v_b : Value} {Q : Value → World → Prop} {w : World} (h : S251 v_a v_b Q w) : callS Tryz.prog 251 #[v_a, v_b] Q w :=
  callS_of mix (fun a w => Tryz.call251 a w) (by kernel_rfl) (by rw [eq251]; exact h)
end Go.Proofs.YtndjohbbaplekaaGreatX
