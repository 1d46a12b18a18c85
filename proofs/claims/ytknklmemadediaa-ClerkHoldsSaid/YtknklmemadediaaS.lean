/- The readings of the functions' code, printed by a program, each held equal to the one that is computed: for all arguments, all worlds.
   Conditions: none. -/
import Derived.Test.YtknklmemadediaaShC
import Derived.Test.YtknklmemadediaaProg
import Derived.KernelRfl
set_option linter.unusedSimpArgs false
set_option linter.unusedVariables false
namespace Go.Proofs.Ytknklmemadediaa
open Go.Sh
set_option maxRecDepth 100000
theorem mix : Try.prog.follows .mixedOrders = true := by kernel_rfl

-- gosem.cut.init
def S2 (Q : Value → World → Prop) (w : World) : Prop :=
 callS Try.prog 1 #[] (fun _ w_1 => 
 Q (.tuple #[]) w_1) w
theorem eq2 (Q : Value → World → Prop) (w : World) : semF Try.prog 2 [] Q w = S2 Q w := by kernel_rfl
theorem ref2 {Q : Value → World → Prop} {w : World} (h : S2 Q w) : callS Try.prog 2 #[] Q w :=
  callS_of mix (fun a w => Try.call2 a w) (by kernel_rfl) (by rw [eq2]; exact h)
-- commons/commonslaw22.ClerkQuits
def S3 (v_a v_b v_granted : Value) (Q : Value → World → Prop) (w : World) : Prop :=
 act Try.prog (Instr.box 25 v_a) (fun t3 w_1 => 
 act Try.prog (Instr.box 25 v_b) (fun t4 w_2 => 
 rd Try.prog (Instr.loadAt 25 t3) (fun t14 => 
 rd Try.prog (Instr.loadAt 25 t4) (fun t15 => 
 act Try.prog (Instr.buildSlice 27 2 #[(0, t14), (1, t15)]) (fun t16 w_3 => 
 callS Try.prog 9 #[t16] (fun t17 w_4 => 
 pur Try.prog (Op.unary .not t17) fun t18 => 
 gd t18 false (fun k w_5 => pur Try.prog (Instr.fieldAt 25 t3 1) fun t20 => k t20 w_5) (fun t20_1 w_6 => 
 gd t18 false (fun k_1 w_7 => rd Try.prog (Instr.loadAt 3 t20_1) (fun t21 => k_1 t21 w_7) w_7) (fun t21_1 w_8 => 
 gd t18 false (fun k_2 w_9 => pur Try.prog (binS .eql 3 false true t21_1 (.int .i64 0)) fun t22 => k_2 t22 w_9) (fun t22_1 w_10 => 
 pur Try.prog (pickS t18 (.bool true) t22_1) fun t23 => 
 gd t23 false (fun k_3 w_11 => pur Try.prog (Instr.fieldAt 25 t4 1) fun t25 => k_3 t25 w_11) (fun t25_1 w_12 => 
 gd t23 false (fun k_4 w_13 => rd Try.prog (Instr.loadAt 3 t25_1) (fun t26 => k_4 t26 w_13) w_13) (fun t26_1 w_14 => 
 gd t23 false (fun k_5 w_15 => pur Try.prog (binS .eql 3 false true t26_1 (.int .i64 0)) fun t27 => k_5 t27 w_15) (fun t27_1 w_16 => 
 pur Try.prog (pickS t23 (.bool true) t27_1) fun t28 => 
 condS t28
  (callS Try.prog 10 #[] (fun t29 w_17 => 
  Q t29 w_17) w_16)
  (callS Try.prog 11 #[(.int .i64 1)] (fun t30 w_18 => 
 rd Try.prog (binS .eql 29 false true t30 (.pointer none)) (fun t32 => 
 gd t32 false (fun k_6 w_19 => k_6 t30 w_19) (fun t34_1 w_20 => 
 gd t32 false (fun k_7 w_21 => callS Try.prog 12 #[t34_1, (.int .u64 3), (.int .i64 1)] (fun t35 w_22 => k_7 t35 w_22) w_21) (fun t35_1 w_23 => 
 gd t32 false (fun k_8 w_24 => pur Try.prog (Op.unary .not t35_1) fun t36 => k_8 t36 w_24) (fun t36_1 w_25 => 
 pur Try.prog (pickS t32 (.bool true) t36_1) fun t37 => 
 condS t37
  (Q (.bool false) w_25)
  (rd Try.prog (Instr.loadAt 25 t3) (fun t40 => 
 act Try.prog (Instr.buildSlice 27 1 #[(0, t40)]) (fun t41 w_26 => 
 callS Try.prog 13 #[t30, t41] (fun t42 w_27 => 
 pur Try.prog (Instr.extract t42 0) fun t43 => 
 pur Try.prog (Instr.extract t42 1) fun _ => 
 callS Try.prog 14 #[t30] (fun t46 w_28 => 
 rd Try.prog (Instr.loadAt 25 t4) (fun t49 => 
 act Try.prog (Instr.buildSlice 27 1 #[(0, t49)]) (fun t50 w_29 => 
 callS Try.prog 13 #[t30, t50] (fun t51 w_30 => 
 pur Try.prog (Instr.extract t51 0) fun t52 => 
 pur Try.prog (Instr.extract t51 1) fun _ => 
 pur Try.prog (Builtin.len_ #[33] 3 #[t43]) fun t55 => 
 pur Try.prog (binS .neq 3 false true t55 (.int .i64 1)) fun t56 => 
 gd t56 false (fun k_9 w_31 => k_9 t46 w_31) (fun t58_1 w_32 => 
 gd t56 false (fun k_10 w_33 => pur Try.prog (Builtin.len_ #[33] 3 #[t58_1]) fun t59 => k_10 t59 w_33) (fun t59_1 w_34 => 
 gd t56 false (fun k_11 w_35 => pur Try.prog (binS .neq 3 false true t59_1 (.int .i64 1)) fun t60 => k_11 t60 w_35) (fun t60_1 w_36 => 
 pur Try.prog (pickS t56 (.bool true) t60_1) fun t61 => 
 gd t61 false (fun k_12 w_37 => k_12 t46 w_37) (fun t63_1 w_38 => 
 gd t61 false (fun k_13 w_39 => pur Try.prog (Instr.indexAt 33 t63_1 (.int .i64 0)) fun t64 => k_13 t64 w_39) (fun t64_1 w_40 => 
 gd t61 false (fun k_14 w_41 => pur Try.prog (Instr.fieldAt 39 t64_1 0) fun t65 => k_14 t65 w_41) (fun t65_1 w_42 => 
 gd t61 false (fun k_15 w_43 => rd Try.prog (Instr.loadAt 3 t65_1) (fun t66 => k_15 t66 w_43) w_43) (fun t66_1 w_44 => 
 gd t61 false (fun k_16 w_45 => pur Try.prog (binS .neq 3 false true t66_1 (.int .i64 15)) fun t67 => k_16 t67 w_45) (fun t67_1 w_46 => 
 pur Try.prog (pickS t61 (.bool true) t67_1) fun t68 => 
 gd t68 false (fun k_17 w_47 => k_17 t46 w_47) (fun t70_1 w_48 => 
 gd t68 false (fun k_18 w_49 => pur Try.prog (Instr.indexAt 33 t70_1 (.int .i64 0)) fun t71 => k_18 t71 w_49) (fun t71_1 w_50 => 
 gd t68 false (fun k_19 w_51 => pur Try.prog (Instr.fieldAt 39 t71_1 1) fun t72 => k_19 t72 w_51) (fun t72_1 w_52 => 
 gd t68 false (fun k_20 w_53 => rd Try.prog (Instr.loadAt 3 t72_1) (fun t73 => k_20 t73 w_53) w_53) (fun t73_1 w_54 => 
 gd t68 false (fun k_21 w_55 => k_21 t43 w_55) (fun t74_1 w_56 => 
 gd t68 false (fun k_22 w_57 => pur Try.prog (Instr.indexAt 33 t74_1 (.int .i64 0)) fun t75 => k_22 t75 w_57) (fun t75_1 w_58 => 
 gd t68 false (fun k_23 w_59 => pur Try.prog (Instr.fieldAt 39 t75_1 1) fun t76 => k_23 t76 w_59) (fun t76_1 w_60 => 
 gd t68 false (fun k_24 w_61 => rd Try.prog (Instr.loadAt 3 t76_1) (fun t77 => k_24 t77 w_61) w_61) (fun t77_1 w_62 => 
 gd t68 false (fun k_25 w_63 => pur Try.prog (binS .neq 3 false false t73_1 t77_1) fun t78 => k_25 t78 w_63) (fun t78_1 w_64 => 
 pur Try.prog (pickS t68 (.bool true) t78_1) fun t79 => 
 gd t79 false (fun k_26 w_65 => k_26 t52 w_65) (fun t81_1 w_66 => 
 gd t79 false (fun k_27 w_67 => pur Try.prog (Builtin.len_ #[33] 3 #[t81_1]) fun t82 => k_27 t82 w_67) (fun t82_1 w_68 => 
 gd t79 false (fun k_28 w_69 => pur Try.prog (binS .neq 3 false true t82_1 (.int .i64 0)) fun t83 => k_28 t83 w_69) (fun t83_1 w_70 => 
 pur Try.prog (pickS t79 (.bool true) t83_1) fun t84 => 
 condS t84
  (Q (.bool false) w_70)
  (jn 1 (fun J => 
  condS v_granted
   (∃ S : World → Prop, S (World.drew w_70) ∧ 
   pur Try.prog (Instr.indexAt 33 t43 (.int .i64 0)) fun t89 => 
   pur Try.prog (Instr.fieldAt 39 t89 1) fun t90 => 
   hld Try.prog S (Instr.loadAt 3 t90) fun t91 => 
   hld Try.prog S (Instr.loadAt 25 t3) fun t92 => 
   act Try.prog (Instr.buildSlice 27 1 #[(0, t92)]) (fun t93 w_71 => S w_71 ∧ 
   pur Try.prog (Instr.build 39 #[(0, (.int .i64 6)), (1, t91), (5, (.int .u64 3)), (3, (.int .i64 1)), (7, t93)]) fun t94 => 
   callS Try.prog 15 #[t30, t94] (fun t95 w_72 => S w_72 ∧ 
   pur Try.prog (Instr.extract t95 0) fun t96 => 
   pur Try.prog (Instr.extract t95 1) fun _ => 
   J t96 w_72) w_71) (World.drew w_70))
   (pur Try.prog (Instr.indexAt 33 t43 (.int .i64 0)) fun t101 => 
   pur Try.prog (Instr.fieldAt 39 t101 1) fun t102 => 
   rd Try.prog (Instr.loadAt 3 t102) (fun t103 => 
   pur Try.prog (Instr.build 39 #[(0, (.int .i64 7)), (1, t103), (5, (.int .u64 3)), (3, (.int .i64 1)), (6, (.int .i64 35))]) fun t104 => 
   callS Try.prog 15 #[t30, t104] (fun t105 w_73 => 
   pur Try.prog (Instr.extract t105 0) fun t106 => 
   pur Try.prog (Instr.extract t105 1) fun _ => 
   J t106 w_73) w_70) w_70))
 (fun v_o w_74 => ∀ _j : Fr, 
  pur Try.prog (Builtin.len_ #[33] 3 #[v_o]) fun t109 => 
  pur Try.prog (binS .eql 3 false true t109 (.int .i64 1)) fun t110 => 
  rd Try.prog (Instr.loadAt 25 t4) (fun t112 => 
  act Try.prog (Instr.buildSlice 27 1 #[(0, t112)]) (fun t113 w_75 => 
  callS Try.prog 16 #[t30, t113] (fun t114 w_76 => 
  pur Try.prog (binS .eql 4 false false t110 t114) fun t115 => 
  gd t115 false (fun k_29 w_77 => k_29 v_o w_77) (fun t117_1 w_78 => 
  gd t115 false (fun k_30 w_79 => pur Try.prog (Builtin.len_ #[33] 3 #[t117_1]) fun t118 => k_30 t118 w_79) (fun t118_1 w_80 => 
  gd t115 false (fun k_31 w_81 => pur Try.prog (binS .eql 3 false true t118_1 (.int .i64 1)) fun t119 => k_31 t119 w_81) (fun t119_1 w_82 => 
  gd t115 false (fun k_32 w_83 => k_32 t119_1 w_83) (fun t120_1 w_84 => 
  gd t120_1 true (fun k_33 w_85 => k_33 v_o w_85) (fun t121_1 w_86 => 
  gd t120_1 true (fun k_34 w_87 => pur Try.prog (Instr.indexAt 33 t121_1 (.int .i64 0)) fun t122 => k_34 t122 w_87) (fun t122_1 w_88 => 
  gd t120_1 true (fun k_35 w_89 => pur Try.prog (Instr.fieldAt 39 t122_1 0) fun t123 => k_35 t123 w_89) (fun t123_1 w_90 => 
  gd t120_1 true (fun k_36 w_91 => rd Try.prog (Instr.loadAt 3 t123_1) (fun t124 => k_36 t124 w_91) w_91) (fun t124_1 w_92 => 
  gd t120_1 true (fun k_37 w_93 => pur Try.prog (binS .neq 3 false true t124_1 (.int .i64 5)) fun t125 => k_37 t125 w_93) (fun t125_1 w_94 => 
  gd t120_1 true (fun k_38 w_95 => k_38 t125_1 w_95) (fun t126_1 w_96 => 
  gd t126_1 false (fun k_39 w_97 => k_39 v_o w_97) (fun t127_1 w_98 => 
  gd t126_1 false (fun k_40 w_99 => pur Try.prog (Instr.indexAt 33 t127_1 (.int .i64 0)) fun t128 => k_40 t128 w_99) (fun t128_1 w_100 => 
  gd t126_1 false (fun k_41 w_101 => pur Try.prog (Instr.fieldAt 39 t128_1 1) fun t129 => k_41 t129 w_101) (fun t129_1 w_102 => 
  gd t126_1 false (fun k_42 w_103 => rd Try.prog (Instr.loadAt 3 t129_1) (fun t130 => k_42 t130 w_103) w_103) (fun t130_1 w_104 => 
  gd t126_1 false (fun k_43 w_105 => k_43 t43 w_105) (fun t131_1 w_106 => 
  gd t126_1 false (fun k_44 w_107 => pur Try.prog (Instr.indexAt 33 t131_1 (.int .i64 0)) fun t132 => k_44 t132 w_107) (fun t132_1 w_108 => 
  gd t126_1 false (fun k_45 w_109 => pur Try.prog (Instr.fieldAt 39 t132_1 1) fun t133 => k_45 t133 w_109) (fun t133_1 w_110 => 
  gd t126_1 false (fun k_46 w_111 => rd Try.prog (Instr.loadAt 3 t133_1) (fun t134 => k_46 t134 w_111) w_111) (fun t134_1 w_112 => 
  gd t126_1 false (fun k_47 w_113 => pur Try.prog (binS .add 3 false true t134_1 (.int .i64 1)) fun t135 => k_47 t135 w_113) (fun t135_1 w_114 => 
  gd t126_1 false (fun k_48 w_115 => pur Try.prog (binS .neq 3 false false t130_1 t135_1) fun t136 => k_48 t136 w_115) (fun t136_1 w_116 => 
  gd t120_1 true (fun k_49 w_117 => pur Try.prog (pickS t126_1 (.bool true) t136_1) fun t137 => k_49 t137 w_117) (fun t137_1 w_118 => 
  gd t115 false (fun k_50 w_119 => pur Try.prog (pickS t120_1 t137_1 (.bool false)) fun t138 => k_50 t138 w_119) (fun t138_1 w_120 => 
  pur Try.prog (pickS t115 (.bool true) t138_1) fun t139 => 
  condS t139
   (Q (.bool false) w_120)
   (callS Try.prog 10 #[] (fun t140 w_121 => 
  gd t140 true (fun k_51 w_122 => k_51 t30 w_122) (fun t142_1 w_123 => 
  gd t140 true (fun k_52 w_124 => callS Try.prog 17 #[t142_1] (fun t143 w_125 => k_52 t143 w_125) w_124) (fun t143_1 w_126 => 
  gd t140 true (fun k_53 w_127 => pur Try.prog (binS .eql 37 false true t143_1 (.int .i64 0)) fun t144 => k_53 t144 w_127) (fun t144_1 w_128 => 
  pur Try.prog (pickS t140 t144_1 (.bool false)) fun t145 => 
  gd t145 true (fun k_54 w_129 => k_54 t30 w_129) (fun t147_1 w_130 => 
  gd t145 true (fun k_55 w_131 => rd Try.prog (Instr.loadAt 25 t3) (fun t148 => k_55 t148 w_131) w_131) (fun t148_1 w_132 => 
  gd t145 true (fun k_56 w_133 => act Try.prog (Instr.buildSlice 27 1 #[(0, t148_1)]) (fun t149 w_134 => k_56 t149 w_134) w_133) (fun t149_1 w_135 => 
  gd t145 true (fun k_57 w_136 => callS Try.prog 16 #[t147_1, t149_1] (fun t150 w_137 => k_57 t150 w_137) w_136) (fun t150_1 w_138 => 
  gd t145 true (fun k_58 w_139 => k_58 v_granted w_139) (fun t151_1 w_140 => 
  gd t145 true (fun k_59 w_141 => k_59 t151_1 w_141) (fun t152_1 w_142 => 
  gd t152_1 false (fun k_60 w_143 => rd Try.prog (Instr.loadAt 25 t3) (fun t153 => k_60 t153 w_143) w_143) (fun t153_1 w_144 => 
  gd t152_1 false (fun k_61 w_145 => act Try.prog (Instr.buildSlice 27 1 #[(0, t153_1)]) (fun t154 w_146 => k_61 t154 w_146) w_145) (fun t154_1 w_147 => 
  gd t152_1 false (fun k_62 w_148 => callS Try.prog 18 #[t154_1] (fun t155 w_149 => k_62 t155 w_149) w_148) (fun t155_1 w_150 => 
  gd t152_1 false (fun k_63 w_151 => rd Try.prog (binS .eql 44 false true t155_1 (.slice none 0 0)) (fun t156 => k_63 t156 w_151) w_151) (fun t156_1 w_152 => 
  gd t145 true (fun k_64 w_153 => pur Try.prog (pickS t152_1 (.bool true) t156_1) fun t157 => k_64 t157 w_153) (fun t157_1 w_154 => 
  gd t145 true (fun k_65 w_155 => pur Try.prog (binS .eql 4 false false t150_1 t157_1) fun t158 => k_65 t158 w_155) (fun t158_1 w_156 => 
  pur Try.prog (pickS t145 t158_1 (.bool false)) fun t159 => 
  Q t159 w_156) w_154) w_152) w_150) w_147) w_144) w_142) w_140) w_138) w_135) w_132) w_130) w_128) w_126) w_123) w_121) w_120)) w_118) w_116) w_114) w_112) w_110) w_108) w_106) w_104) w_102) w_100) w_98) w_96) w_94) w_92) w_90) w_88) w_86) w_84) w_82) w_80) w_78) w_76) w_75) (World.drew w_74)) (World.drew w_74)))) w_68) w_66) w_64) w_62) w_60) w_58) w_56) w_54) w_52) w_50) w_48) w_46) w_44) w_42) w_40) w_38) w_36) w_34) w_32) (World.drew w_30)) w_29) w_28) w_28) w_27) w_26) w_25) w_25)) w_23) w_20) w_18) w_18) w_16)) w_14) w_12) w_10) w_8) w_6) w_4) w_3) w_2) w_2) w_2) w_1) w
theorem eq3 (v_a v_b v_granted : Value) (Q : Value → World → Prop) (w : World) : semF Try.prog 3 [v_a, v_b, v_granted] Q w = S3 v_a v_b v_granted Q w := by kernel_rfl
theorem ref3 {v_a v_b v_granted : Value} {Q : Value → World → Prop} {w : World} (h : S3 v_a v_b v_granted Q w) : callS Try.prog 3 #[v_a, v_b, v_granted] Q w :=
  callS_of mix (fun a w => Try.call3 a w) (by kernel_rfl) (by rw [eq3]; exact h)
-- commons/commonslaw22.ClerkOrder
def S4 (v_l : Value) (Q : Value → World → Prop) (w : World) : Prop :=
 pur Try.prog (Builtin.len_ #[27] 3 #[v_l]) fun t13 => 
 pur Try.prog (binS .gtr 3 false true t13 (.int .i64 20)) fun t14 => 
 gd t14 false (fun k w_1 => k v_l w_1) (fun t16_1 w_2 => 
 gd t14 false (fun k_1 w_3 => callS Try.prog 9 #[t16_1] (fun t17 w_4 => k_1 t17 w_4) w_3) (fun t17_1 w_5 => 
 gd t14 false (fun k_2 w_6 => pur Try.prog (Op.unary .not t17_1) fun t18 => k_2 t18 w_6) (fun t18_1 w_7 => 
 pur Try.prog (pickS t14 (.bool true) t18_1) fun t19 => 
 condS t19
  (callS Try.prog 10 #[] (fun t20 w_8 => 
  Q t20 w_8) w_7)
  (callS Try.prog 11 #[(.int .i64 1)] (fun t21 w_9 => 
 rd Try.prog (binS .eql 29 false true t21 (.pointer none)) (fun t23 => 
 gd t23 false (fun k_3 w_10 => k_3 t21 w_10) (fun t25_1 w_11 => 
 gd t23 false (fun k_4 w_12 => callS Try.prog 12 #[t25_1, (.int .u64 3), (.int .i64 1)] (fun t26 w_13 => k_4 t26 w_13) w_12) (fun t26_1 w_14 => 
 gd t23 false (fun k_5 w_15 => pur Try.prog (Op.unary .not t26_1) fun t27 => k_5 t27 w_15) (fun t27_1 w_16 => 
 pur Try.prog (pickS t23 (.bool true) t27_1) fun t28 => 
 condS t28
  (Q (.bool false) w_16)
  (callS Try.prog 13 #[t21, v_l] (fun t32 w_17 => 
 pur Try.prog (Instr.extract t32 0) fun t33 => 
 pur Try.prog (Instr.extract t32 1) fun t34 => 
 lp 3 (fun J => fun v_m v_last v_k w_18 => ∀ _j : Fr, 
  pur Try.prog (binS .lss 3 false true v_k (.int .i64 60)) fun t36 => 
  gd t36 true (fun k_6 w_19 => k_6 v_m w_19) (fun t38_1 w_20 => 
  gd t36 true (fun k_7 w_21 => pur Try.prog (Builtin.len_ #[33] 3 #[t38_1]) fun t39 => k_7 t39 w_21) (fun t39_1 w_22 => 
  gd t36 true (fun k_8 w_23 => pur Try.prog (binS .gtr 3 false true t39_1 (.int .i64 0)) fun t40 => k_8 t40 w_23) (fun t40_1 w_24 => 
  pur Try.prog (pickS t36 t40_1 (.bool false)) fun t41 => 
  condS t41
   (gd t34 false (fun k_9 w_25 => k_9 v_m w_25) (fun t46_1 w_26 => 
  gd t34 false (fun k_10 w_27 => pur Try.prog (Builtin.len_ #[33] 3 #[t46_1]) fun t47 => k_10 t47 w_27) (fun t47_1 w_28 => 
  gd t34 false (fun k_11 w_29 => pur Try.prog (binS .neq 3 false true t47_1 (.int .i64 1)) fun t48 => k_11 t48 w_29) (fun t48_1 w_30 => 
  pur Try.prog (pickS t34 (.bool true) t48_1) fun t49 => 
  gd t49 false (fun k_12 w_31 => k_12 v_m w_31) (fun t51_1 w_32 => 
  gd t49 false (fun k_13 w_33 => pur Try.prog (Instr.indexAt 33 t51_1 (.int .i64 0)) fun t52 => k_13 t52 w_33) (fun t52_1 w_34 => 
  gd t49 false (fun k_14 w_35 => pur Try.prog (Instr.fieldAt 39 t52_1 0) fun t53 => k_14 t53 w_35) (fun t53_1 w_36 => 
  gd t49 false (fun k_15 w_37 => rd Try.prog (Instr.loadAt 3 t53_1) (fun t54 => k_15 t54 w_37) w_37) (fun t54_1 w_38 => 
  gd t49 false (fun k_16 w_39 => pur Try.prog (binS .neq 3 false true t54_1 (.int .i64 5)) fun t55 => k_16 t55 w_39) (fun t55_1 w_40 => 
  pur Try.prog (pickS t49 (.bool true) t55_1) fun t56 => 
  gd t56 false (fun k_17 w_41 => k_17 v_m w_41) (fun t58_1 w_42 => 
  gd t56 false (fun k_18 w_43 => pur Try.prog (Instr.indexAt 33 t58_1 (.int .i64 0)) fun t59 => k_18 t59 w_43) (fun t59_1 w_44 => 
  gd t56 false (fun k_19 w_45 => pur Try.prog (Instr.fieldAt 39 t59_1 7) fun t60 => k_19 t60 w_45) (fun t60_1 w_46 => 
  gd t56 false (fun k_20 w_47 => rd Try.prog (Instr.loadAt 27 t60_1) (fun t61 => k_20 t61 w_47) w_47) (fun t61_1 w_48 => 
  gd t56 false (fun k_21 w_49 => pur Try.prog (Builtin.len_ #[27] 3 #[t61_1]) fun t62 => k_21 t62 w_49) (fun t62_1 w_50 => 
  gd t56 false (fun k_22 w_51 => pur Try.prog (binS .neq 3 false true t62_1 (.int .i64 1)) fun t63 => k_22 t63 w_51) (fun t63_1 w_52 => 
  pur Try.prog (pickS t56 (.bool true) t63_1) fun t64 => 
  gd t64 false (fun k_23 w_53 => k_23 v_m w_53) (fun t66_1 w_54 => 
  gd t64 false (fun k_24 w_55 => pur Try.prog (Instr.indexAt 33 t66_1 (.int .i64 0)) fun t67 => k_24 t67 w_55) (fun t67_1 w_56 => 
  gd t64 false (fun k_25 w_57 => pur Try.prog (Instr.fieldAt 39 t67_1 7) fun t68 => k_25 t68 w_57) (fun t68_1 w_58 => 
  gd t64 false (fun k_26 w_59 => rd Try.prog (Instr.loadAt 27 t68_1) (fun t69 => k_26 t69 w_59) w_59) (fun t69_1 w_60 => 
  gd t64 false (fun k_27 w_61 => pur Try.prog (Instr.indexAt 27 t69_1 (.int .i64 0)) fun t70 => k_27 t70 w_61) (fun t70_1 w_62 => 
  gd t64 false (fun k_28 w_63 => pur Try.prog (Instr.fieldAt 25 t70_1 0) fun t71 => k_28 t71 w_63) (fun t71_1 w_64 => 
  gd t64 false (fun k_29 w_65 => pur Try.prog (Instr.fieldAt 23 t71_1 0) fun t72 => k_29 t72 w_65) (fun t72_1 w_66 => 
  gd t64 false (fun k_30 w_67 => rd Try.prog (Instr.loadAt 3 t72_1) (fun t73 => k_30 t73 w_67) w_67) (fun t73_1 w_68 => 
  gd t64 false (fun k_31 w_69 => k_31 v_last w_69) (fun t74_1 w_70 => 
  gd t64 false (fun k_32 w_71 => pur Try.prog (binS .leq 3 false false t73_1 t74_1) fun t75 => k_32 t75 w_71) (fun t75_1 w_72 => 
  pur Try.prog (pickS t64 (.bool true) t75_1) fun t76 => 
  gd t76 false (fun k_33 w_73 => k_33 v_m w_73) (fun t78_1 w_74 => 
  gd t76 false (fun k_34 w_75 => pur Try.prog (Instr.indexAt 33 t78_1 (.int .i64 0)) fun t79 => k_34 t79 w_75) (fun t79_1 w_76 => 
  gd t76 false (fun k_35 w_77 => pur Try.prog (Instr.fieldAt 39 t79_1 1) fun t80 => k_35 t80 w_77) (fun t80_1 w_78 => 
  gd t76 false (fun k_36 w_79 => rd Try.prog (Instr.loadAt 3 t80_1) (fun t81 => k_36 t81 w_79) w_79) (fun t81_1 w_80 => 
  gd t76 false (fun k_37 w_81 => k_37 v_k w_81) (fun t82_1 w_82 => 
  gd t76 false (fun k_38 w_83 => pur Try.prog (binS .add 3 false true t82_1 (.int .i64 1)) fun t83 => k_38 t83 w_83) (fun t83_1 w_84 => 
  gd t76 false (fun k_39 w_85 => pur Try.prog (binS .neq 3 false false t81_1 t83_1) fun t84 => k_39 t84 w_85) (fun t84_1 w_86 => 
  pur Try.prog (pickS t76 (.bool true) t84_1) fun t85 => 
  condS t85
   (Q (.bool false) w_86)
   (pur Try.prog (Instr.indexAt 33 v_m (.int .i64 0)) fun t87 => 
  pur Try.prog (Instr.fieldAt 39 t87 7) fun t88 => 
  rd Try.prog (Instr.loadAt 27 t88) (fun t89 => 
  pur Try.prog (Instr.indexAt 27 t89 (.int .i64 0)) fun t90 => 
  pur Try.prog (Instr.fieldAt 25 t90 0) fun t91 => 
  pur Try.prog (Instr.fieldAt 23 t91 0) fun t92 => 
  rd Try.prog (Instr.loadAt 3 t92) (fun t93 => 
  pur Try.prog (Instr.indexAt 33 v_m (.int .i64 0)) fun t97 => 
  pur Try.prog (Instr.fieldAt 39 t97 1) fun t98 => 
  rd Try.prog (Instr.loadAt 3 t98) (fun t99 => 
  pur Try.prog (Instr.indexAt 33 v_m (.int .i64 0)) fun t101 => 
  pur Try.prog (Instr.fieldAt 39 t101 7) fun t102 => 
  rd Try.prog (Instr.loadAt 27 t102) (fun t103 => 
  pur Try.prog (Instr.build 39 #[(0, (.int .i64 6)), (1, t99), (5, (.int .u64 3)), (3, (.int .i64 1)), (7, t103)]) fun t104 => 
  callS Try.prog 15 #[t21, t104] (fun t105 w_87 => 
  pur Try.prog (Instr.extract t105 0) fun t106 => 
  pur Try.prog (Instr.extract t105 1) fun t107 => 
  pur Try.prog (Op.unary .not t107) fun t109 => 
  condS t109
   (Q (.bool false) w_87)
   (pur Try.prog (binS .add 3 false true v_k (.int .i64 1)) fun t43 => 
  J t106 t93 t43 w_87)) (World.drew w_86)) (World.drew w_86)) (World.drew w_86)) w_86) w_86)) w_84) w_82) w_80) w_78) w_76) w_74) w_72) w_70) w_68) w_66) w_64) w_62) w_60) w_58) w_56) w_54) w_52) w_50) w_48) w_46) w_44) w_42) w_40) w_38) w_36) w_34) w_32) w_30) w_28) w_26) w_24)
   (callS Try.prog 13 #[t21, v_l] (fun t114 w_88 => 
 pur Try.prog (Instr.extract t114 0) fun _ => 
 pur Try.prog (Instr.extract t114 1) fun t116 => 
 callS Try.prog 10 #[] (fun t117 w_89 => 
 gd t117 true (fun k_40 w_90 => k_40 v_m w_90) (fun t119_1 w_91 => 
 gd t117 true (fun k_41 w_92 => pur Try.prog (Builtin.len_ #[33] 3 #[t119_1]) fun t120 => k_41 t120 w_92) (fun t120_1 w_93 => 
 gd t117 true (fun k_42 w_94 => pur Try.prog (binS .eql 3 false true t120_1 (.int .i64 0)) fun t121 => k_42 t121 w_94) (fun t121_1 w_95 => 
 pur Try.prog (pickS t117 t121_1 (.bool false)) fun t122 => 
 gd t122 true (fun k_43 w_96 => k_43 t116 w_96) (fun t124_1 w_97 => 
 pur Try.prog (pickS t122 t124_1 (.bool false)) fun t125 => 
 gd t125 true (fun k_44 w_98 => k_44 t21 w_98) (fun t127_1 w_99 => 
 gd t125 true (fun k_45 w_100 => k_45 v_l w_100) (fun t128_1 w_101 => 
 gd t125 true (fun k_46 w_102 => callS Try.prog 16 #[t127_1, t128_1] (fun t129 w_103 => k_46 t129 w_103) w_102) (fun t129_1 w_104 => 
 pur Try.prog (pickS t125 t129_1 (.bool false)) fun t130 => 
 gd t130 true (fun k_47 w_105 => k_47 t21 w_105) (fun t132_1 w_106 => 
 gd t130 true (fun k_48 w_107 => callS Try.prog 19 #[t132_1] (fun t133 w_108 => k_48 t133 w_108) w_107) (fun t133_1 w_109 => 
 gd t130 true (fun k_49 w_110 => pur Try.prog (Builtin.len_ #[27] 3 #[t133_1]) fun t134 => k_49 t134 w_110) (fun t134_1 w_111 => 
 gd t130 true (fun k_50 w_112 => pur Try.prog (binS .eql 3 false true t134_1 (.int .i64 0)) fun t135 => k_50 t135 w_112) (fun t135_1 w_113 => 
 pur Try.prog (pickS t130 t135_1 (.bool false)) fun t136 => 
 gd t136 true (fun k_51 w_114 => k_51 t21 w_114) (fun t138_1 w_115 => 
 gd t136 true (fun k_52 w_116 => callS Try.prog 20 #[t138_1] (fun t139 w_117 => k_52 t139 w_117) w_116) (fun t139_1 w_118 => 
 gd t136 true (fun k_53 w_119 => pur Try.prog (Builtin.len_ #[27] 3 #[t139_1]) fun t140 => k_53 t140 w_119) (fun t140_1 w_120 => 
 gd t136 true (fun k_54 w_121 => k_54 v_l w_121) (fun t141_1 w_122 => 
 gd t136 true (fun k_55 w_123 => callS Try.prog 18 #[t141_1] (fun t142 w_124 => k_55 t142 w_124) w_123) (fun t142_1 w_125 => 
 gd t136 true (fun k_56 w_126 => pur Try.prog (Builtin.len_ #[44] 3 #[t142_1]) fun t143 => k_56 t143 w_126) (fun t143_1 w_127 => 
 gd t136 true (fun k_57 w_128 => pur Try.prog (binS .eql 3 false false t140_1 t143_1) fun t144 => k_57 t144 w_128) (fun t144_1 w_129 => 
 pur Try.prog (pickS t136 t144_1 (.bool false)) fun t145 => 
 Q t145 w_129) w_127) w_125) w_122) w_120) w_118) w_115) w_113) w_111) w_109) w_106) w_104) w_101) w_99) w_97) w_95) w_93) w_91) w_89) w_88) w_24)) w_22) w_20) w_18) [t33, (.int .i64 (-1)), (.int .i64 0)] w_17) w_16)) w_14) w_11) w_9) w_9) w_7)) w_5) w_2) w
theorem eq4 (v_l : Value) (Q : Value → World → Prop) (w : World) : semF Try.prog 4 [v_l] Q w = S4 v_l Q w := by kernel_rfl
theorem ref4 {v_l : Value} {Q : Value → World → Prop} {w : World} (h : S4 v_l Q w) : callS Try.prog 4 #[v_l] Q w :=
  callS_of mix (fun a w => Try.call4 a w) (by kernel_rfl) (by rw [eq4]; exact h)
-- commons/commonslaw22.ClerkGives
def S5 (v_held v_s v_keep v_block : Value) (Q : Value → World → Prop) (w : World) : Prop :=
 act Try.prog (Instr.box 23 v_s) (fun t5 w_1 => 
 pur Try.prog (Builtin.len_ #[27] 3 #[v_held]) fun t26 => 
 pur Try.prog (binS .gtr 3 false true t26 (.int .i64 12)) fun t27 => 
 gd t27 false (fun k w_2 => k v_held w_2) (fun t29_1 w_3 => 
 gd t27 false (fun k_1 w_4 => callS Try.prog 9 #[t29_1] (fun t30 w_5 => k_1 t30 w_5) w_4) (fun t30_1 w_6 => 
 gd t27 false (fun k_2 w_7 => pur Try.prog (Op.unary .not t30_1) fun t31 => k_2 t31 w_7) (fun t31_1 w_8 => 
 pur Try.prog (pickS t27 (.bool true) t31_1) fun t32 => 
 gd t32 false (fun k_3 w_9 => pur Try.prog (Instr.fieldAt 23 t5 0) fun t34 => k_3 t34 w_9) (fun t34_1 w_10 => 
 gd t32 false (fun k_4 w_11 => rd Try.prog (Instr.loadAt 3 t34_1) (fun t35 => k_4 t35 w_11) w_11) (fun t35_1 w_12 => 
 gd t32 false (fun k_5 w_13 => pur Try.prog (binS .lss 3 false true t35_1 (.int .i64 0)) fun t36 => k_5 t36 w_13) (fun t36_1 w_14 => 
 pur Try.prog (pickS t32 (.bool true) t36_1) fun t37 => 
 gd t37 false (fun k_6 w_15 => pur Try.prog (Instr.fieldAt 23 t5 0) fun t39 => k_6 t39 w_15) (fun t39_1 w_16 => 
 gd t37 false (fun k_7 w_17 => rd Try.prog (Instr.loadAt 3 t39_1) (fun t40 => k_7 t40 w_17) w_17) (fun t40_1 w_18 => 
 gd t37 false (fun k_8 w_19 => pur Try.prog (Instr.fieldAt 23 t5 1) fun t41 => k_8 t41 w_19) (fun t41_1 w_20 => 
 gd t37 false (fun k_9 w_21 => rd Try.prog (Instr.loadAt 3 t41_1) (fun t42 => k_9 t42 w_21) w_21) (fun t42_1 w_22 => 
 gd t37 false (fun k_10 w_23 => pur Try.prog (binS .geq 3 false false t40_1 t42_1) fun t43 => k_10 t43 w_23) (fun t43_1 w_24 => 
 pur Try.prog (pickS t37 (.bool true) t43_1) fun t44 => 
 gd t44 false (fun k_11 w_25 => pur Try.prog (Instr.fieldAt 23 t5 1) fun t46 => k_11 t46 w_25) (fun t46_1 w_26 => 
 gd t44 false (fun k_12 w_27 => rd Try.prog (Instr.loadAt 3 t46_1) (fun t47 => k_12 t47 w_27) w_27) (fun t47_1 w_28 => 
 gd t44 false (fun k_13 w_29 => pur Try.prog (binS .gtr 3 false true t47_1 (.int .i64 4096)) fun t48 => k_13 t48 w_29) (fun t48_1 w_30 => 
 pur Try.prog (pickS t44 (.bool true) t48_1) fun t49 => 
 gd t49 false (fun k_14 w_31 => k_14 v_keep w_31) (fun t51_1 w_32 => 
 gd t49 false (fun k_15 w_33 => pur Try.prog (binS .lss 3 false true t51_1 (.int .i64 0)) fun t52 => k_15 t52 w_33) (fun t52_1 w_34 => 
 pur Try.prog (pickS t49 (.bool true) t52_1) fun t53 => 
 gd t53 false (fun k_16 w_35 => k_16 v_keep w_35) (fun t55_1 w_36 => 
 gd t53 false (fun k_17 w_37 => pur Try.prog (binS .gtr 3 false true t55_1 (.int .i64 1)) fun t56 => k_17 t56 w_37) (fun t56_1 w_38 => 
 pur Try.prog (pickS t53 (.bool true) t56_1) fun t57 => 
 condS t57
  (callS Try.prog 10 #[] (fun t58 w_39 => 
  Q t58 w_39) w_38)
  (callS Try.prog 11 #[(.int .i64 1)] (fun t59 w_40 => 
 rd Try.prog (binS .eql 29 false true t59 (.pointer none)) (fun t61 => 
 gd t61 false (fun k_18 w_41 => k_18 t59 w_41) (fun t63_1 w_42 => 
 gd t61 false (fun k_19 w_43 => callS Try.prog 12 #[t63_1, (.int .u64 3), (.int .i64 1)] (fun t64 w_44 => k_19 t64 w_44) w_43) (fun t64_1 w_45 => 
 gd t61 false (fun k_20 w_46 => pur Try.prog (Op.unary .not t64_1) fun t65 => k_20 t65 w_46) (fun t65_1 w_47 => 
 pur Try.prog (pickS t61 (.bool true) t65_1) fun t66 => 
 condS t66
  (Q (.bool false) w_47)
  (lp 2 (fun J => fun v_want v_i w_48 => ∀ _j : Fr, 
  pur Try.prog (Builtin.len_ #[27] 3 #[v_held]) fun t69 => 
  pur Try.prog (binS .lss 3 false false v_i t69) fun t70 => 
  condS t70
   (jn 1 (fun J_1 => 
   pur Try.prog (Instr.indexAt 27 v_held v_i) fun t75 => 
   pur Try.prog (Instr.fieldAt 25 t75 1) fun t76 => 
   rd Try.prog (Instr.loadAt 3 t76) (fun t77 => 
   pur Try.prog (binS .gtr 3 false true t77 (.int .i64 0)) fun t78 => 
   condS t78
    (pur Try.prog (Instr.indexAt 27 v_held v_i) fun t82 => 
    rd Try.prog (Instr.loadAt 25 t82) (fun t83 => 
    act Try.prog (Instr.buildSlice 27 1 #[(0, t83)]) (fun t84 w_49 => 
    act Try.prog (Builtin.append_ #[27, 27] 27 #[v_want, t84]) (fun t85 w_50 => 
    J_1 t85 w_50) w_49) w_48) w_48)
    (J_1 v_want w_48)) w_48)
  (fun v_want_1 w_51 => ∀ _j : Fr, 
   pur Try.prog (binS .add 3 false true v_i (.int .i64 1)) fun t72 => 
   J v_want_1 t72 w_51))
   (callS Try.prog 13 #[t59, v_want] (fun t89 w_52 => 
 pur Try.prog (Instr.extract t89 0) fun t90 => 
 pur Try.prog (Instr.extract t89 1) fun _ => 
 lp 3 (fun J_2 => fun v_n v_m v_k w_53 => ∀ _j : Fr, 
  pur Try.prog (binS .lss 3 false true v_k (.int .i64 40)) fun t93 => 
  gd t93 true (fun k_21 w_54 => k_21 v_m w_54) (fun t95_1 w_55 => 
  gd t93 true (fun k_22 w_56 => pur Try.prog (Builtin.len_ #[33] 3 #[t95_1]) fun t96 => k_22 t96 w_56) (fun t96_1 w_57 => 
  gd t93 true (fun k_23 w_58 => pur Try.prog (binS .eql 3 false true t96_1 (.int .i64 1)) fun t97 => k_23 t97 w_58) (fun t97_1 w_59 => 
  pur Try.prog (pickS t93 t97_1 (.bool false)) fun t98 => 
  condS t98
   (pur Try.prog (binS .add 3 false true v_n (.int .i64 1)) fun t102 => 
  pur Try.prog (Instr.indexAt 33 v_m (.int .i64 0)) fun t106 => 
  pur Try.prog (Instr.fieldAt 39 t106 1) fun t107 => 
  rd Try.prog (Instr.loadAt 3 t107) (fun t108 => 
  pur Try.prog (Instr.indexAt 33 v_m (.int .i64 0)) fun t110 => 
  pur Try.prog (Instr.fieldAt 39 t110 7) fun t111 => 
  rd Try.prog (Instr.loadAt 27 t111) (fun t112 => 
  pur Try.prog (Instr.build 39 #[(0, (.int .i64 6)), (1, t108), (5, (.int .u64 3)), (3, (.int .i64 1)), (7, t112)]) fun t113 => 
  callS Try.prog 15 #[t59, t113] (fun t114 w_60 => 
  pur Try.prog (Instr.extract t114 0) fun t115 => 
  pur Try.prog (Instr.extract t114 1) fun _ => 
  pur Try.prog (binS .add 3 false true v_k (.int .i64 1)) fun t100 => 
  J_2 t102 t115 t100 w_60) (World.drew w_59)) (World.drew w_59)) (World.drew w_59))
   (callS Try.prog 21 #[t59] (fun _ w_61 => 
 callS Try.prog 18 #[v_want] (fun t120 w_62 => 
 rd Try.prog (Instr.loadAt 23 t5) (fun t123 => 
 pur Try.prog (Instr.build 25 #[(0, t123), (1, v_keep)]) fun t125 => 
 act Try.prog (Instr.buildSlice 27 1 #[(0, t125)]) (fun t126 w_63 => 
 pur Try.prog (Instr.build 39 #[(0, (.int .i64 8)), (5, (.int .u64 3)), (3, (.int .i64 1)), (7, t126)]) fun t127 => 
 callS Try.prog 15 #[t59, t127] (fun t128 w_64 => 
 pur Try.prog (Instr.extract t128 0) fun _ => 
 pur Try.prog (Instr.extract t128 1) fun t130 => 
 callS Try.prog 19 #[t59] (fun t132 w_65 => 
 callS Try.prog 22 #[t59, t132] (fun t136 w_66 => 
 pur Try.prog (Instr.extract t136 0) fun t137 => 
 pur Try.prog (Instr.extract t136 1) fun t138 => 
 act Try.prog (Instr.alloc 39 true (.tuple #[])) (fun t20 w_67 => 
 act Try.prog (thenU (Instr.storeAt 39 t20 t137)) (fun _ w_68 => 
 callS Try.prog 23 #[t120, v_block] (fun t142 w_69 => 
 pur Try.prog (Instr.extract t142 0) fun t143 => 
 pur Try.prog (Instr.extract t142 1) fun _ => 
 jn 1 (fun J_3 => 
  pur Try.prog (Instr.fieldAt 23 t5 0) fun t145 => 
  rd Try.prog (Instr.loadAt 3 t145) (fun t146 => 
  pur Try.prog (binS .leq 3 false false t146 v_block) fun t148 => 
  gd t148 true (fun k_24 w_70 => k_24 v_block w_70) (fun t150_1 w_71 => 
  gd t148 true (fun k_25 w_72 => pur Try.prog (Instr.fieldAt 23 t5 1) fun t151 => k_25 t151 w_72) (fun t151_1 w_73 => 
  gd t148 true (fun k_26 w_74 => rd Try.prog (Instr.loadAt 3 t151_1) (fun t152 => k_26 t152 w_74) w_74) (fun t152_1 w_75 => 
  gd t148 true (fun k_27 w_76 => pur Try.prog (binS .lss 3 false false t150_1 t152_1) fun t153 => k_27 t153 w_76) (fun t153_1 w_77 => 
  pur Try.prog (pickS t148 t153_1 (.bool false)) fun t154 => 
  condS t154
   (pur Try.prog (Builtin.min_ #[3, 3] 3 #[t143, v_keep]) fun t157 => 
   J_3 t157 w_77)
   (J_3 t143 w_77)) w_75) w_73) w_71) w_69) w_69)
 (fun v_mode w_78 => ∀ _j : Fr, 
  pur Try.prog (binS .add 3 false true v_block (.int .i64 1)) fun t160 => 
  pur Try.prog (Instr.build 23 #[(0, v_block), (1, t160)]) fun t161 => 
  act Try.prog (Instr.alloc 23 true (.tuple #[])) (fun t24 w_79 => 
  act Try.prog (thenU (Instr.storeAt 23 t24 t161)) (fun _ w_80 => 
  pur Try.prog (Op.unary .not t130) fun t163 => 
  gd t163 false (fun k_28 w_81 => k_28 t138 w_81) (fun t165_1 w_82 => 
  gd t163 false (fun k_29 w_83 => k_29 t132 w_83) (fun t166_1 w_84 => 
  gd t163 false (fun k_30 w_85 => pur Try.prog (Builtin.len_ #[27] 3 #[t166_1]) fun t167 => k_30 t167 w_85) (fun t167_1 w_86 => 
  gd t163 false (fun k_31 w_87 => pur Try.prog (binS .gtr 3 false true t167_1 (.int .i64 0)) fun t168 => k_31 t168 w_87) (fun t168_1 w_88 => 
  gd t163 false (fun k_32 w_89 => pur Try.prog (binS .neq 4 false false t165_1 t168_1) fun t169 => k_32 t169 w_89) (fun t169_1 w_90 => 
  pur Try.prog (pickS t163 (.bool true) t169_1) fun t170 => 
  gd t170 false (fun k_33 w_91 => k_33 t138 w_91) (fun t172_1 w_92 => 
  gd t170 false (fun k_34 w_93 => k_34 t172_1 w_93) (fun t173_1 w_94 => 
  gd t173_1 true (fun k_35 w_95 => pur Try.prog (Instr.fieldAt 39 t20 0) fun t174 => k_35 t174 w_95) (fun t174_1 w_96 => 
  gd t173_1 true (fun k_36 w_97 => rd Try.prog (Instr.loadAt 3 t174_1) (fun t175 => k_36 t175 w_97) w_97) (fun t175_1 w_98 => 
  gd t173_1 true (fun k_37 w_99 => pur Try.prog (binS .neq 3 false true t175_1 (.int .i64 9)) fun t176 => k_37 t176 w_99) (fun t176_1 w_100 => 
  gd t173_1 true (fun k_38 w_101 => k_38 t176_1 w_101) (fun t177_1 w_102 => 
  gd t177_1 false (fun k_39 w_103 => pur Try.prog (Instr.fieldAt 39 t20 4) fun t178 => k_39 t178 w_103) (fun t178_1 w_104 => 
  gd t177_1 false (fun k_40 w_105 => rd Try.prog (Instr.loadAt 3 t178_1) (fun t179 => k_40 t179 w_105) w_105) (fun t179_1 w_106 => 
  gd t177_1 false (fun k_41 w_107 => k_41 v_n w_107) (fun t180_1 w_108 => 
  gd t177_1 false (fun k_42 w_109 => pur Try.prog (binS .neq 3 false false t179_1 t180_1) fun t181 => k_42 t181 w_109) (fun t181_1 w_110 => 
  gd t173_1 true (fun k_43 w_111 => pur Try.prog (pickS t177_1 (.bool true) t181_1) fun t182 => k_43 t182 w_111) (fun t182_1 w_112 => 
  gd t173_1 true (fun k_44 w_113 => k_44 t182_1 w_113) (fun t183_1 w_114 => 
  gd t183_1 false (fun k_45 w_115 => pur Try.prog (Instr.fieldAt 39 t20 5) fun t184 => k_45 t184 w_115) (fun t184_1 w_116 => 
  gd t183_1 false (fun k_46 w_117 => rd Try.prog (Instr.loadAt 32 t184_1) (fun t185 => k_46 t185 w_117) w_117) (fun t185_1 w_118 => 
  gd t183_1 false (fun k_47 w_119 => pur Try.prog (binS .neq 32 false true t185_1 (.int .u64 3)) fun t186 => k_47 t186 w_119) (fun t186_1 w_120 => 
  gd t173_1 true (fun k_48 w_121 => pur Try.prog (pickS t183_1 (.bool true) t186_1) fun t187 => k_48 t187 w_121) (fun t187_1 w_122 => 
  gd t170 false (fun k_49 w_123 => pur Try.prog (pickS t173_1 t187_1 (.bool false)) fun t188 => k_49 t188 w_123) (fun t188_1 w_124 => 
  pur Try.prog (pickS t170 (.bool true) t188_1) fun t189 => 
  gd t189 false (fun k_50 w_125 => k_50 t59 w_125) (fun t191_1 w_126 => 
  gd t189 false (fun k_51 w_127 => callS Try.prog 19 #[t191_1] (fun t192 w_128 => k_51 t192 w_128) w_127) (fun t192_1 w_129 => 
  gd t189 false (fun k_52 w_130 => pur Try.prog (Builtin.len_ #[27] 3 #[t192_1]) fun t193 => k_52 t193 w_130) (fun t193_1 w_131 => 
  gd t189 false (fun k_53 w_132 => pur Try.prog (binS .neq 3 false true t193_1 (.int .i64 0)) fun t194 => k_53 t194 w_132) (fun t194_1 w_133 => 
  pur Try.prog (pickS t189 (.bool true) t194_1) fun t195 => 
  condS t195
   (Q (.bool false) w_133)
   (pur Try.prog (binS .lss 3 false true v_block (.int .i64 0)) fun t197 => 
  gd t197 false (fun k_54 w_134 => k_54 v_block w_134) (fun t199_1 w_135 => 
  gd t197 false (fun k_55 w_136 => pur Try.prog (binS .geq 3 false true t199_1 (.int .i64 4096)) fun t200 => k_55 t200 w_136) (fun t200_1 w_137 => 
  pur Try.prog (pickS t197 (.bool true) t200_1) fun t201 => 
  condS t201
   (callS Try.prog 10 #[] (fun t202 w_138 => 
   Q t202 w_138) w_137)
   (callS Try.prog 10 #[] (fun t203 w_139 => 
  gd t203 true (fun k_56 w_140 => k_56 v_mode w_140) (fun t205_1 w_141 => 
  gd t203 true (fun k_57 w_142 => pur Try.prog (binS .eql 3 false true t205_1 (.int .i64 2)) fun t206 => k_57 t206 w_142) (fun t206_1 w_143 => 
  gd t203 true (fun k_58 w_144 => k_58 t59 w_144) (fun t207_1 w_145 => 
  gd t203 true (fun k_59 w_146 => rd Try.prog (Instr.loadAt 23 t24) (fun t208 => k_59 t208 w_146) w_146) (fun t208_1 w_147 => 
  gd t203 true (fun k_60 w_148 => pur Try.prog (Instr.build 25 #[(0, t208_1), (1, (.int .i64 2))]) fun t209 => k_60 t209 w_148) (fun t209_1 w_149 => 
  gd t203 true (fun k_61 w_150 => act Try.prog (Instr.buildSlice 27 1 #[(0, t209_1)]) (fun t210 w_151 => k_61 t210 w_151) w_150) (fun t210_1 w_152 => 
  gd t203 true (fun k_62 w_153 => callS Try.prog 16 #[t207_1, t210_1] (fun t211 w_154 => k_62 t211 w_154) w_153) (fun t211_1 w_155 => 
  gd t203 true (fun k_63 w_156 => pur Try.prog (binS .eql 4 false false t206_1 t211_1) fun t212 => k_63 t212 w_156) (fun t212_1 w_157 => 
  pur Try.prog (pickS t203 t212_1 (.bool false)) fun t213 => 
  gd t213 true (fun k_64 w_158 => k_64 v_mode w_158) (fun t215_1 w_159 => 
  gd t213 true (fun k_65 w_160 => pur Try.prog (binS .geq 3 false true t215_1 (.int .i64 1)) fun t216 => k_65 t216 w_160) (fun t216_1 w_161 => 
  gd t213 true (fun k_66 w_162 => k_66 t59 w_162) (fun t217_1 w_163 => 
  gd t213 true (fun k_67 w_164 => rd Try.prog (Instr.loadAt 23 t24) (fun t218 => k_67 t218 w_164) w_164) (fun t218_1 w_165 => 
  gd t213 true (fun k_68 w_166 => pur Try.prog (Instr.build 25 #[(0, t218_1), (1, (.int .i64 1))]) fun t219 => k_68 t219 w_166) (fun t219_1 w_167 => 
  gd t213 true (fun k_69 w_168 => act Try.prog (Instr.buildSlice 27 1 #[(0, t219_1)]) (fun t220 w_169 => k_69 t220 w_169) w_168) (fun t220_1 w_170 => 
  gd t213 true (fun k_70 w_171 => callS Try.prog 16 #[t217_1, t220_1] (fun t221 w_172 => k_70 t221 w_172) w_171) (fun t221_1 w_173 => 
  gd t213 true (fun k_71 w_174 => pur Try.prog (binS .eql 4 false false t216_1 t221_1) fun t222 => k_71 t222 w_174) (fun t222_1 w_175 => 
  pur Try.prog (pickS t213 t222_1 (.bool false)) fun t223 => 
  Q t223 w_175) w_173) w_170) w_167) w_165) w_163) w_161) w_159) w_157) w_155) w_152) w_149) w_147) w_145) w_143) w_141) w_139) w_137)) w_135) w_133)) w_131) w_129) w_126) w_124) w_122) w_120) w_118) w_116) w_114) w_112) w_110) w_108) w_106) w_104) w_102) w_100) w_98) w_96) w_94) w_92) w_90) w_88) w_86) w_84) w_82) w_80) w_79) w_78)) w_68) w_67) w_66) w_65) w_64) w_63) w_62) w_62) w_61) w_59)) w_57) w_55) w_53) [(.int .i64 0), t90, (.int .i64 0)] w_52) w_48)) [(.slice none 0 0), (.int .i64 0)] w_47)) w_45) w_42) w_40) w_40) w_38)) w_36) w_34) w_32) w_30) w_28) w_26) w_24) w_22) w_20) w_18) w_16) w_14) w_12) w_10) w_8) w_6) w_3) w_1) w
theorem eq5 (v_held v_s v_keep v_block : Value) (Q : Value → World → Prop) (w : World) : semF Try.prog 5 [v_held, v_s, v_keep, v_block] Q w = S5 v_held v_s v_keep v_block Q w := by kernel_rfl
theorem ref5 {v_held v_s v_keep v_block : Value} {Q : Value → World → Prop} {w : World} (h : S5 v_held v_s v_keep v_block Q w) : callS Try.prog 5 #[v_held, v_s, v_keep, v_block] Q w :=
  callS_of mix (fun a w => Try.call5 a w) (by kernel_rfl) (by rw [eq5]; exact h)
-- commons/commonslaw22.ClerkHolds
def S6 (v_l v_block : Value) (Q : Value → World → Prop) (w : World) : Prop :=
 callS Try.prog 24 #[v_l] (fun t20 w_1 => 
 pur Try.prog (Op.unary .not t20) fun t21 => 
 condS t21
  (callS Try.prog 10 #[] (fun t22 w_2 => 
  Q t22 w_2) w_1)
  (callS Try.prog 11 #[(.int .i64 1)] (fun t23 w_3 => 
 rd Try.prog (binS .eql 29 false true t23 (.pointer none)) (fun t25 => 
 gd t25 false (fun k w_4 => k t23 w_4) (fun t27_1 w_5 => 
 gd t25 false (fun k_1 w_6 => callS Try.prog 12 #[t27_1, (.int .u64 1), (.int .i64 1)] (fun t28 w_7 => k_1 t28 w_7) w_6) (fun t28_1 w_8 => 
 gd t25 false (fun k_2 w_9 => pur Try.prog (Op.unary .not t28_1) fun t29 => k_2 t29 w_9) (fun t29_1 w_10 => 
 pur Try.prog (pickS t25 (.bool true) t29_1) fun t30 => 
 condS t30
  (Q (.bool false) w_10)
  (lp 3 (fun J => fun v_used v_id v_i w_11 => ∀ _j : Fr, 
  pur Try.prog (Builtin.len_ #[53] 3 #[v_l]) fun t33 => 
  pur Try.prog (binS .lss 3 false false v_i t33) fun t34 => 
  condS t34
   (pur Try.prog (Instr.indexAt 53 v_l v_i) fun t39 => 
  rd Try.prog (Instr.loadAt 56 t39) (fun t40 => 
  act Try.prog (Instr.alloc 56 true (.tuple #[])) (fun t9 w_12 => 
  act Try.prog (thenU (Instr.storeAt 56 t9 t40)) (fun _ w_13 => 
  pur Try.prog (Instr.fieldAt 56 t9 3) fun t41 => 
  rd Try.prog (Instr.loadAt 27 t41) (fun t42 => 
  callS Try.prog 9 #[t42] (fun t43 w_14 => 
  pur Try.prog (Op.unary .not t43) fun t44 => 
  gd t44 false (fun k_3 w_15 => pur Try.prog (Instr.fieldAt 56 t9 4) fun t46 => k_3 t46 w_15) (fun t46_1 w_16 => 
  gd t44 false (fun k_4 w_17 => pur Try.prog (Instr.fieldAt 39 t46_1 7) fun t47 => k_4 t47 w_17) (fun t47_1 w_18 => 
  gd t44 false (fun k_5 w_19 => rd Try.prog (Instr.loadAt 27 t47_1) (fun t48 => k_5 t48 w_19) w_19) (fun t48_1 w_20 => 
  gd t44 false (fun k_6 w_21 => callS Try.prog 9 #[t48_1] (fun t49 w_22 => k_6 t49 w_22) w_21) (fun t49_1 w_23 => 
  gd t44 false (fun k_7 w_24 => pur Try.prog (Op.unary .not t49_1) fun t50 => k_7 t50 w_24) (fun t50_1 w_25 => 
  pur Try.prog (pickS t44 (.bool true) t50_1) fun t51 => 
  condS t51
   (Q (.bool true) w_25)
   (jn 2 (fun J_1 => 
   pur Try.prog (Instr.fieldAt 56 t9 0) fun t52 => 
   rd Try.prog (Instr.loadAt 3 t52) (fun t53 => 
   pur Try.prog (binS .eql 3 false true t53 (.int .i64 2)) fun t55 => 
   condS t55
    (pur Try.prog (Instr.fieldAt 56 t9 3) fun t58 => 
    rd Try.prog (Instr.loadAt 27 t58) (fun t59 => 
    callS Try.prog 13 #[t23, t59] (fun t60 w_26 => 
    pur Try.prog (Instr.extract t60 0) fun t61 => 
    pur Try.prog (Instr.extract t60 1) fun _ => 
    lp 2 (fun J_2 => fun v_id_1 v_k w_27 => ∀ _j : Fr, 
     pur Try.prog (Builtin.len_ #[33] 3 #[t61]) fun t65 => 
     pur Try.prog (binS .lss 3 false false v_k t65) fun t66 => 
     condS t66
      (pur Try.prog (Instr.indexAt 33 t61 v_k) fun t71 => 
     pur Try.prog (Instr.fieldAt 39 t71 1) fun t72 => 
     rd Try.prog (Instr.loadAt 3 t72) (fun t73 => 
     pur Try.prog (binS .add 3 false true v_k (.int .i64 1)) fun t68 => 
     J_2 t73 t68 w_27) w_27)
      (J_1 v_used v_id_1 w_27)) [v_id, (.int .i64 0)] w_26) w_25) w_25)
    (pur Try.prog (binS .eql 3 false true t53 (.int .i64 3)) fun t75 => 
    condS t75
     (pur Try.prog (Instr.fieldAt 56 t9 4) fun t76 => 
     rd Try.prog (Instr.loadAt 39 t76) (fun t77 => 
     act Try.prog (Instr.alloc 39 true (.tuple #[])) (fun t13 w_28 => 
     act Try.prog (thenU (Instr.storeAt 39 t13 t77)) (fun _ w_29 => 
     pur Try.prog (Instr.fieldAt 39 t13 5) fun t79 => 
     act Try.prog (thenU (Instr.storeAt 32 t79 (.int .u64 1))) (fun _ w_30 => 
     pur Try.prog (Instr.fieldAt 39 t13 3) fun t80 => 
     act Try.prog (thenU (Instr.storeAt 3 t80 (.int .i64 1))) (fun _ w_31 => 
     pur Try.prog (Instr.fieldAt 39 t13 1) fun t81 => 
     act Try.prog (thenU (Instr.storeAt 3 t81 v_id)) (fun _ w_32 => 
     rd Try.prog (Instr.loadAt 39 t13) (fun t83 => 
     callS Try.prog 15 #[t23, t83] (fun _ w_33 => 
     J_1 v_used v_id w_33) w_32) w_32) w_31) w_30) w_29) w_28) w_25) w_25)
     (pur Try.prog (binS .eql 3 false true t53 (.int .i64 4)) fun t86 => 
     condS t86
      (pur Try.prog (Instr.fieldAt 56 t9 3) fun t88 => 
      rd Try.prog (Instr.loadAt 27 t88) (fun t89 => 
      callS Try.prog 25 #[t23, t89] (fun t90 w_34 => 
      condS t90
       (pur Try.prog (Instr.fieldAt 56 t9 3) fun t92 => 
       rd Try.prog (Instr.loadAt 27 t92) (fun t93 => 
       act Try.prog (Builtin.append_ #[27, 27] 27 #[v_used, t93]) (fun t94 w_35 => 
       J_1 t94 v_id w_35) w_34) w_34)
       (J_1 v_used v_id w_34)) w_25) w_25)
      (pur Try.prog (binS .eql 3 false true t53 (.int .i64 5)) fun t96 => 
      condS t96
       (callS Try.prog 21 #[t23] (fun _ w_36 => 
       J_1 (.slice none 0 0) v_id w_36) w_25)
       (jn 1 (fun J_3 => 
        pur Try.prog (binS .eql 3 false true t53 (.int .i64 8)) fun t100 => 
        condS t100
         (J_3 t100 w_25)
         (pur Try.prog (binS .eql 3 false true t53 (.int .i64 6)) fun t101 => 
         J_3 t101 w_25))
       (fun t99 w_37 => ∀ _j : Fr, 
        condS t99
         (callS Try.prog 19 #[t23] (fun t105 w_38 => 
         callS Try.prog 22 #[t23, t105] (fun t106 w_39 => 
         pur Try.prog (Instr.extract t106 0) fun t107 => 
         pur Try.prog (Instr.extract t106 1) fun t108 => 
         act Try.prog (Instr.alloc 39 true (.tuple #[])) (fun t14 w_40 => 
         act Try.prog (thenU (Instr.storeAt 39 t14 t107)) (fun _ w_41 => 
         lp 1 (fun J_4 => fun v_k_1 w_42 => ∀ _j : Fr, 
          pur Try.prog (Instr.fieldAt 39 t14 7) fun t110 => 
          rd Try.prog (Instr.loadAt 27 t110) (fun t111 => 
          pur Try.prog (Builtin.len_ #[27] 3 #[t111]) fun t112 => 
          pur Try.prog (binS .lss 3 false false v_k_1 t112) fun t113 => 
          gd t113 true (fun k_8 w_43 => k_8 t108 w_43) (fun t115_1 w_44 => 
          pur Try.prog (pickS t113 t115_1 (.bool false)) fun t116 => 
          condS t116
           (pur Try.prog (Instr.fieldAt 39 t14 7) fun t120 => 
          rd Try.prog (Instr.loadAt 27 t120) (fun t121 => 
          pur Try.prog (Instr.indexAt 27 t121 v_k_1) fun t123 => 
          pur Try.prog (Instr.fieldAt 25 t123 0) fun t124 => 
          rd Try.prog (Instr.loadAt 23 t124) (fun t125 => 
          pur Try.prog (Instr.fieldAt 39 t14 7) fun t126 => 
          rd Try.prog (Instr.loadAt 27 t126) (fun t127 => 
          pur Try.prog (Instr.indexAt 27 t127 v_k_1) fun t129 => 
          pur Try.prog (Instr.fieldAt 25 t129 1) fun t130 => 
          rd Try.prog (Instr.loadAt 3 t130) (fun t131 => 
          pur Try.prog (binS .add 3 false true t131 (.int .i64 1)) fun t132 => 
          pur Try.prog (Instr.build 25 #[(0, t125), (1, t132)]) fun t133 => 
          act Try.prog (Instr.buildSlice 27 1 #[(0, t133)]) (fun t134 w_45 => 
          callS Try.prog 16 #[t23, t134] (fun t135 w_46 => 
          condS t135
           (Q (.bool false) w_46)
           (pur Try.prog (binS .add 3 false true v_k_1 (.int .i64 1)) fun t118 => 
          J_4 t118 w_46)) w_45) (World.drew w_44)) (World.drew w_44)) (World.drew w_44)) (World.drew w_44)) (World.drew w_44))
           (J_1 v_used v_id w_44)) w_42) w_42) [(.int .i64 0)] w_41) w_40) w_39) w_38) w_37)
         (J_1 v_used v_id w_37))))))) w_25)
  (fun v_used_1 v_id_2 w_47 => ∀ _j : Fr, 
   callS Try.prog 16 #[t23, v_used_1] (fun t138 w_48 => 
   pur Try.prog (Op.unary .not t138) fun t139 => 
   condS t139
    (Q (.bool false) w_48)
    (callS Try.prog 19 #[t23] (fun t141 w_49 => 
   lp 1 (fun J_5 => fun v_k_2 w_50 => ∀ _j : Fr, 
    pur Try.prog (Builtin.len_ #[27] 3 #[t141]) fun t144 => 
    pur Try.prog (binS .lss 3 false false v_k_2 t144) fun t145 => 
    condS t145
     (pur Try.prog (Instr.indexAt 27 t141 v_k_2) fun t151 => 
    pur Try.prog (Instr.fieldAt 25 t151 0) fun t152 => 
    rd Try.prog (Instr.loadAt 23 t152) (fun t153 => 
    pur Try.prog (Instr.indexAt 27 t141 v_k_2) fun t156 => 
    pur Try.prog (Instr.fieldAt 25 t156 1) fun t157 => 
    rd Try.prog (Instr.loadAt 3 t157) (fun t158 => 
    pur Try.prog (binS .add 3 false true t158 (.int .i64 1)) fun t159 => 
    pur Try.prog (Instr.build 25 #[(0, t153), (1, t159)]) fun t160 => 
    act Try.prog (Instr.buildSlice 27 1 #[(0, t160)]) (fun t161 w_51 => 
    callS Try.prog 16 #[t23, t161] (fun t162 w_52 => 
    pur Try.prog (Op.unary .not t162) fun t163 => 
    condS t163
     (Q (.bool false) w_52)
     (pur Try.prog (binS .add 3 false true v_k_2 (.int .i64 1)) fun t147 => 
    J_5 t147 w_52)) w_51) (World.drew w_50)) (World.drew w_50)) (World.drew w_50))
     (pur Try.prog (binS .add 3 false true v_i (.int .i64 1)) fun t36 => 
  J v_used_1 v_id_2 t36 w_50)) [(.int .i64 0)] w_49) w_48)) w_47))) w_23) w_20) w_18) w_16) w_14) w_13) w_13) w_12) w_11) w_11)
   (callS Try.prog 10 #[] (fun t164 w_53 => 
 gd t164 true (fun k_9 w_54 => k_9 v_block w_54) (fun t166_1 w_55 => 
 gd t164 true (fun k_10 w_56 => pur Try.prog (binS .lss 3 false true t166_1 (.int .i64 0)) fun t167 => k_10 t167 w_56) (fun t167_1 w_57 => 
 gd t164 true (fun k_11 w_58 => k_11 t167_1 w_58) (fun t168_1 w_59 => 
 gd t168_1 false (fun k_12 w_60 => k_12 t23 w_60) (fun t169_1 w_61 => 
 gd t168_1 false (fun k_13 w_62 => callS Try.prog 20 #[t169_1] (fun t170 w_63 => k_13 t170 w_63) w_62) (fun t170_1 w_64 => 
 gd t168_1 false (fun k_14 w_65 => pur Try.prog (Builtin.len_ #[27] 3 #[t170_1]) fun t171 => k_14 t171 w_65) (fun t171_1 w_66 => 
 gd t168_1 false (fun k_15 w_67 => pur Try.prog (binS .leq 3 false true t171_1 (.int .i64 5000)) fun t172 => k_15 t172 w_67) (fun t172_1 w_68 => 
 gd t164 true (fun k_16 w_69 => pur Try.prog (pickS t168_1 (.bool true) t172_1) fun t173 => k_16 t173 w_69) (fun t173_1 w_70 => 
 pur Try.prog (pickS t164 t173_1 (.bool false)) fun t174 => 
 Q t174 w_70) w_68) w_66) w_64) w_61) w_59) w_57) w_55) w_53) w_11)) [(.slice none 0 0), (.int .i64 0), (.int .i64 0)] w_10)) w_8) w_5) w_3) w_3) w_1)) w
theorem eq6 (v_l v_block : Value) (Q : Value → World → Prop) (w : World) : semF Try.prog 6 [v_l, v_block] Q w = S6 v_l v_block Q w := by kernel_rfl
theorem ref6 {v_l v_block : Value} {Q : Value → World → Prop} {w : World} (h : S6 v_l v_block Q w) : callS Try.prog 6 #[v_l, v_block] Q w :=
  callS_of mix (fun a w => Try.call6 a w) (by kernel_rfl) (by rw [eq6]; exact h)
-- commons/commonslaw22.ClerkUses
def S7 (v_l v_keep : Value) (Q : Value → World → Prop) (w : World) : Prop :=
 act Try.prog (Instr.box 25 v_l) (fun t2 w_1 => 
 rd Try.prog (Instr.loadAt 25 t2) (fun t16 => 
 act Try.prog (Instr.buildSlice 27 1 #[(0, t16)]) (fun t17 w_2 => 
 callS Try.prog 9 #[t17] (fun t18 w_3 => 
 pur Try.prog (Op.unary .not t18) fun t19 => 
 gd t19 false (fun k w_4 => pur Try.prog (Instr.fieldAt 25 t2 1) fun t21 => k t21 w_4) (fun t21_1 w_5 => 
 gd t19 false (fun k_1 w_6 => rd Try.prog (Instr.loadAt 3 t21_1) (fun t22 => k_1 t22 w_6) w_6) (fun t22_1 w_7 => 
 gd t19 false (fun k_2 w_8 => pur Try.prog (binS .eql 3 false true t22_1 (.int .i64 0)) fun t23 => k_2 t23 w_8) (fun t23_1 w_9 => 
 pur Try.prog (pickS t19 (.bool true) t23_1) fun t24 => 
 gd t24 false (fun k_3 w_10 => k_3 v_keep w_10) (fun t26_1 w_11 => 
 gd t24 false (fun k_4 w_12 => pur Try.prog (binS .lss 3 false true t26_1 (.int .i64 0)) fun t27 => k_4 t27 w_12) (fun t27_1 w_13 => 
 pur Try.prog (pickS t24 (.bool true) t27_1) fun t28 => 
 gd t28 false (fun k_5 w_14 => k_5 v_keep w_14) (fun t30_1 w_15 => 
 gd t28 false (fun k_6 w_16 => pur Try.prog (Instr.fieldAt 25 t2 1) fun t31 => k_6 t31 w_16) (fun t31_1 w_17 => 
 gd t28 false (fun k_7 w_18 => rd Try.prog (Instr.loadAt 3 t31_1) (fun t32 => k_7 t32 w_18) w_18) (fun t32_1 w_19 => 
 gd t28 false (fun k_8 w_20 => pur Try.prog (binS .geq 3 false false t30_1 t32_1) fun t33 => k_8 t33 w_20) (fun t33_1 w_21 => 
 pur Try.prog (pickS t28 (.bool true) t33_1) fun t34 => 
 condS t34
  (callS Try.prog 10 #[] (fun t35 w_22 => 
  Q t35 w_22) w_21)
  (callS Try.prog 11 #[(.int .i64 1)] (fun t36 w_23 => 
 rd Try.prog (binS .eql 29 false true t36 (.pointer none)) (fun t38 => 
 gd t38 false (fun k_9 w_24 => k_9 t36 w_24) (fun t40_1 w_25 => 
 gd t38 false (fun k_10 w_26 => callS Try.prog 12 #[t40_1, (.int .u64 3), (.int .i64 1)] (fun t41 w_27 => k_10 t41 w_27) w_26) (fun t41_1 w_28 => 
 gd t38 false (fun k_11 w_29 => pur Try.prog (Op.unary .not t41_1) fun t42 => k_11 t42 w_29) (fun t42_1 w_30 => 
 pur Try.prog (pickS t38 (.bool true) t42_1) fun t43 => 
 condS t43
  (Q (.bool false) w_30)
  (rd Try.prog (Instr.loadAt 25 t2) (fun t46 => 
 act Try.prog (Instr.buildSlice 27 1 #[(0, t46)]) (fun t47 w_31 => 
 callS Try.prog 13 #[t36, t47] (fun t48 w_32 => 
 pur Try.prog (Instr.extract t48 0) fun t49 => 
 pur Try.prog (Instr.extract t48 1) fun _ => 
 pur Try.prog (Builtin.len_ #[33] 3 #[t49]) fun t52 => 
 pur Try.prog (binS .neq 3 false true t52 (.int .i64 1)) fun t53 => 
 condS t53
  (Q (.bool false) w_32)
  (∃ S : World → Prop, S (World.drew w_32) ∧ 
 pur Try.prog (Instr.indexAt 33 t49 (.int .i64 0)) fun t56 => 
 pur Try.prog (Instr.fieldAt 39 t56 1) fun t57 => 
 hld Try.prog S (Instr.loadAt 3 t57) fun t58 => 
 hld Try.prog S (Instr.loadAt 25 t2) fun t59 => 
 act Try.prog (Instr.buildSlice 27 1 #[(0, t59)]) (fun t60 w_33 => S w_33 ∧ 
 pur Try.prog (Instr.build 39 #[(0, (.int .i64 6)), (1, t58), (5, (.int .u64 3)), (3, (.int .i64 1)), (7, t60)]) fun t61 => 
 callS Try.prog 15 #[t36, t61] (fun _ w_34 => S w_34 ∧ 
 rd Try.prog (Instr.loadAt 25 t2) (fun t64 => 
 act Try.prog (Instr.buildSlice 27 1 #[(0, t64)]) (fun t65 w_35 => 
 callS Try.prog 25 #[t36, t65] (fun t66 w_36 => 
 pur Try.prog (Instr.fieldAt 25 t2 0) fun t68 => 
 rd Try.prog (Instr.loadAt 23 t68) (fun t69 => 
 pur Try.prog (Instr.build 25 #[(0, t69), (1, v_keep)]) fun t71 => 
 act Try.prog (Instr.buildSlice 27 1 #[(0, t71)]) (fun t72 w_37 => 
 pur Try.prog (Instr.build 39 #[(0, (.int .i64 8)), (5, (.int .u64 3)), (3, (.int .i64 1)), (7, t72)]) fun t73 => 
 callS Try.prog 15 #[t36, t73] (fun _ w_38 => 
 callS Try.prog 19 #[t36] (fun t76 w_39 => 
 pur Try.prog (Instr.fieldAt 25 t2 0) fun t79 => 
 rd Try.prog (Instr.loadAt 23 t79) (fun t80 => 
 pur Try.prog (Instr.build 25 #[(0, t80), (1, v_keep)]) fun t82 => 
 act Try.prog (Instr.buildSlice 27 1 #[(0, t82)]) (fun t83 w_40 => 
 callS Try.prog 22 #[t36, t83] (fun t84 w_41 => 
 pur Try.prog (Instr.extract t84 0) fun t85 => 
 pur Try.prog (Instr.extract t84 1) fun t86 => 
 act Try.prog (Instr.alloc 39 true (.tuple #[])) (fun t10 w_42 => 
 act Try.prog (thenU (Instr.storeAt 39 t10 t85)) (fun _ w_43 => 
 rd Try.prog (Instr.loadAt 25 t2) (fun t88 => 
 act Try.prog (Instr.buildSlice 27 1 #[(0, t88)]) (fun t89 w_44 => 
 callS Try.prog 16 #[t36, t89] (fun t90 w_45 => 
 callS Try.prog 21 #[t36] (fun _ w_46 => 
 callS Try.prog 19 #[t36] (fun t94 w_47 => 
 callS Try.prog 22 #[t36, t94] (fun t98 w_48 => 
 pur Try.prog (Instr.extract t98 0) fun t99 => 
 pur Try.prog (Instr.extract t98 1) fun t100 => 
 act Try.prog (Instr.alloc 39 true (.tuple #[])) (fun t14 w_49 => 
 act Try.prog (thenU (Instr.storeAt 39 t14 t99)) (fun _ w_50 => 
 callS Try.prog 10 #[] (fun t101 w_51 => 
 gd t101 true (fun k_12 w_52 => k_12 t66 w_52) (fun t103_1 w_53 => 
 pur Try.prog (pickS t101 t103_1 (.bool false)) fun t104 => 
 gd t104 true (fun k_13 w_54 => k_13 t76 w_54) (fun t106_1 w_55 => 
 gd t104 true (fun k_14 w_56 => pur Try.prog (Builtin.len_ #[27] 3 #[t106_1]) fun t107 => k_14 t107 w_56) (fun t107_1 w_57 => 
 gd t104 true (fun k_15 w_58 => pur Try.prog (binS .eql 3 false true t107_1 (.int .i64 0)) fun t108 => k_15 t108 w_58) (fun t108_1 w_59 => 
 pur Try.prog (pickS t104 t108_1 (.bool false)) fun t109 => 
 gd t109 true (fun k_16 w_60 => k_16 t86 w_60) (fun t111_1 w_61 => 
 gd t109 true (fun k_17 w_62 => pur Try.prog (Op.unary .not t111_1) fun t112 => k_17 t112 w_62) (fun t112_1 w_63 => 
 pur Try.prog (pickS t109 t112_1 (.bool false)) fun t113 => 
 gd t113 true (fun k_18 w_64 => k_18 t90 w_64) (fun t115_1 w_65 => 
 pur Try.prog (pickS t113 t115_1 (.bool false)) fun t116 => 
 gd t116 true (fun k_19 w_66 => k_19 t94 w_66) (fun t118_1 w_67 => 
 gd t116 true (fun k_20 w_68 => pur Try.prog (Builtin.len_ #[27] 3 #[t118_1]) fun t119 => k_20 t119 w_68) (fun t119_1 w_69 => 
 gd t116 true (fun k_21 w_70 => pur Try.prog (binS .eql 3 false true t119_1 (.int .i64 1)) fun t120 => k_21 t120 w_70) (fun t120_1 w_71 => 
 pur Try.prog (pickS t116 t120_1 (.bool false)) fun t121 => 
 gd t121 true (fun k_22 w_72 => k_22 t94 w_72) (fun t123_1 w_73 => 
 gd t121 true (fun k_23 w_74 => pur Try.prog (Instr.indexAt 27 t123_1 (.int .i64 0)) fun t124 => k_23 t124 w_74) (fun t124_1 w_75 => 
 gd t121 true (fun k_24 w_76 => rd Try.prog (Instr.loadAt 25 t124_1) (fun t125 => k_24 t125 w_76) w_76) (fun t125_1 w_77 => 
 gd t121 true (fun k_25 w_78 => pur Try.prog (Instr.fieldAt 25 t2 0) fun t126 => k_25 t126 w_78) (fun t126_1 w_79 => 
 gd t121 true (fun k_26 w_80 => rd Try.prog (Instr.loadAt 23 t126_1) (fun t127 => k_26 t127 w_80) w_80) (fun t127_1 w_81 => 
 gd t121 true (fun k_27 w_82 => k_27 v_keep w_82) (fun t128_1 w_83 => 
 gd t121 true (fun k_28 w_84 => pur Try.prog (Instr.build 25 #[(0, t127_1), (1, t128_1)]) fun t129 => k_28 t129 w_84) (fun t129_1 w_85 => 
 gd t121 true (fun k_29 w_86 => rd Try.prog (binS .eql 25 false false t125_1 t129_1) (fun t130 => k_29 t130 w_86) w_86) (fun t130_1 w_87 => 
 pur Try.prog (pickS t121 t130_1 (.bool false)) fun t131 => 
 gd t131 true (fun k_30 w_88 => k_30 t100 w_88) (fun t133_1 w_89 => 
 pur Try.prog (pickS t131 t133_1 (.bool false)) fun t134 => 
 gd t134 true (fun k_31 w_90 => pur Try.prog (Instr.fieldAt 39 t14 4) fun t136 => k_31 t136 w_90) (fun t136_1 w_91 => 
 gd t134 true (fun k_32 w_92 => rd Try.prog (Instr.loadAt 3 t136_1) (fun t137 => k_32 t137 w_92) w_92) (fun t137_1 w_93 => 
 gd t134 true (fun k_33 w_94 => pur Try.prog (binS .eql 3 false true t137_1 (.int .i64 1)) fun t138 => k_33 t138 w_94) (fun t138_1 w_95 => 
 pur Try.prog (pickS t134 t138_1 (.bool false)) fun t139 => 
 gd t139 true (fun k_34 w_96 => pur Try.prog (Instr.fieldAt 39 t14 7) fun t141 => k_34 t141 w_96) (fun t141_1 w_97 => 
 gd t139 true (fun k_35 w_98 => rd Try.prog (Instr.loadAt 27 t141_1) (fun t142 => k_35 t142 w_98) w_98) (fun t142_1 w_99 => 
 gd t139 true (fun k_36 w_100 => pur Try.prog (Builtin.len_ #[27] 3 #[t142_1]) fun t143 => k_36 t143 w_100) (fun t143_1 w_101 => 
 gd t139 true (fun k_37 w_102 => pur Try.prog (binS .eql 3 false true t143_1 (.int .i64 1)) fun t144 => k_37 t144 w_102) (fun t144_1 w_103 => 
 pur Try.prog (pickS t139 t144_1 (.bool false)) fun t145 => 
 gd t145 true (fun k_38 w_104 => k_38 t36 w_104) (fun t147_1 w_105 => 
 gd t145 true (fun k_39 w_106 => rd Try.prog (Instr.loadAt 25 t2) (fun t148 => k_39 t148 w_106) w_106) (fun t148_1 w_107 => 
 gd t145 true (fun k_40 w_108 => act Try.prog (Instr.buildSlice 27 1 #[(0, t148_1)]) (fun t149 w_109 => k_40 t149 w_109) w_108) (fun t149_1 w_110 => 
 gd t145 true (fun k_41 w_111 => callS Try.prog 16 #[t147_1, t149_1] (fun t150 w_112 => k_41 t150 w_112) w_111) (fun t150_1 w_113 => 
 gd t145 true (fun k_42 w_114 => pur Try.prog (Op.unary .not t150_1) fun t151 => k_42 t151 w_114) (fun t151_1 w_115 => 
 pur Try.prog (pickS t145 t151_1 (.bool false)) fun t152 => 
 Q t152 w_115) w_113) w_110) w_107) w_105) w_103) w_101) w_99) w_97) w_95) w_93) w_91) w_89) w_87) w_85) w_83) w_81) w_79) w_77) w_75) w_73) w_71) w_69) w_67) w_65) w_63) w_61) w_59) w_57) w_55) w_53) w_51) (World.drew w_50)) w_49) w_48) w_47) w_46) w_45) w_44) w_43) w_43) w_42) w_41) w_40) w_39) w_39) w_38) w_37) w_36) w_36) w_35) w_34) w_34) w_33) (World.drew w_32))) w_31) w_30) w_30)) w_28) w_25) w_23) w_23) w_21)) w_19) w_17) w_15) w_13) w_11) w_9) w_7) w_5) w_3) w_2) w_1) w_1) w
theorem eq7 (v_l v_keep : Value) (Q : Value → World → Prop) (w : World) : semF Try.prog 7 [v_l, v_keep] Q w = S7 v_l v_keep Q w := by kernel_rfl
theorem ref7 {v_l v_keep : Value} {Q : Value → World → Prop} {w : World} (h : S7 v_l v_keep Q w) : callS Try.prog 7 #[v_l, v_keep] Q w :=
  callS_of mix (fun a w => Try.call7 a w) (by kernel_rfl) (by rw [eq7]; exact h)
-- commons/commonslaw22.ClerkNone
def S8 (v_m v_l : Value) (Q : Value → World → Prop) (w : World) : Prop :=
 act Try.prog (Instr.box 39 v_m) (fun t2 w_1 => 
 act Try.prog (Instr.box 25 v_l) (fun t3 w_2 => 
 pur Try.prog (Instr.fieldAt 39 t2 7) fun t12 => 
 rd Try.prog (Instr.loadAt 27 t12) (fun t13 => 
 pur Try.prog (Builtin.len_ #[27] 3 #[t13]) fun t14 => 
 pur Try.prog (binS .gtr 3 false true t14 (.int .i64 20)) fun t15 => 
 condS t15
  (callS Try.prog 10 #[] (fun t16 w_3 => 
  Q t16 w_3) w_2)
  (rd Try.prog (Instr.loadAt 25 t3) (fun t19 => 
 act Try.prog (Instr.buildSlice 27 1 #[(0, t19)]) (fun t20 w_4 => 
 callS Try.prog 13 #[(.pointer none), t20] (fun t21 w_5 => 
 pur Try.prog (Instr.extract t21 0) fun t22 => 
 pur Try.prog (Instr.extract t21 1) fun t23 => 
 rd Try.prog (Instr.loadAt 39 t2) (fun t26 => 
 callS Try.prog 15 #[(.pointer none), t26] (fun t27 w_6 => 
 pur Try.prog (Instr.extract t27 0) fun t28 => 
 pur Try.prog (Instr.extract t27 1) fun t29 => 
 rd Try.prog (Instr.loadAt 25 t3) (fun t32 => 
 act Try.prog (Instr.buildSlice 27 1 #[(0, t32)]) (fun t33 w_7 => 
 callS Try.prog 22 #[(.pointer none), t33] (fun t34 w_8 => 
 pur Try.prog (Instr.extract t34 0) fun t35 => 
 pur Try.prog (Instr.extract t34 1) fun t36 => 
 act Try.prog (Instr.alloc 39 true (.tuple #[])) (fun t10 w_9 => 
 act Try.prog (thenU (Instr.storeAt 39 t10 t35)) (fun _ w_10 => 
 callS Try.prog 21 #[(.pointer none)] (fun _ w_11 => 
 callS Try.prog 10 #[] (fun t39 w_12 => 
 gd t39 true (fun k w_13 => k (.pointer none) w_13) (fun t41_1 w_14 => 
 gd t39 true (fun k_1 w_15 => callS Try.prog 12 #[t41_1, (.int .u64 1), (.int .i64 1)] (fun t42 w_16 => k_1 t42 w_16) w_15) (fun t42_1 w_17 => 
 gd t39 true (fun k_2 w_18 => pur Try.prog (Op.unary .not t42_1) fun t43 => k_2 t43 w_18) (fun t43_1 w_19 => 
 pur Try.prog (pickS t39 t43_1 (.bool false)) fun t44 => 
 gd t44 true (fun k_3 w_20 => k_3 t22 w_20) (fun t46_1 w_21 => 
 gd t44 true (fun k_4 w_22 => pur Try.prog (Builtin.len_ #[33] 3 #[t46_1]) fun t47 => k_4 t47 w_22) (fun t47_1 w_23 => 
 gd t44 true (fun k_5 w_24 => k_5 t28 w_24) (fun t48_1 w_25 => 
 gd t44 true (fun k_6 w_26 => pur Try.prog (Builtin.len_ #[33] 3 #[t48_1]) fun t49 => k_6 t49 w_26) (fun t49_1 w_27 => 
 gd t44 true (fun k_7 w_28 => pur Try.prog (binS .add 3 false false t47_1 t49_1) fun t50 => k_7 t50 w_28) (fun t50_1 w_29 => 
 gd t44 true (fun k_8 w_30 => pur Try.prog (Instr.fieldAt 39 t10 7) fun t51 => k_8 t51 w_30) (fun t51_1 w_31 => 
 gd t44 true (fun k_9 w_32 => rd Try.prog (Instr.loadAt 27 t51_1) (fun t52 => k_9 t52 w_32) w_32) (fun t52_1 w_33 => 
 gd t44 true (fun k_10 w_34 => pur Try.prog (Builtin.len_ #[27] 3 #[t52_1]) fun t53 => k_10 t53 w_34) (fun t53_1 w_35 => 
 gd t44 true (fun k_11 w_36 => pur Try.prog (binS .add 3 false false t50_1 t53_1) fun t54 => k_11 t54 w_36) (fun t54_1 w_37 => 
 gd t44 true (fun k_12 w_38 => pur Try.prog (binS .eql 3 false true t54_1 (.int .i64 0)) fun t55 => k_12 t55 w_38) (fun t55_1 w_39 => 
 pur Try.prog (pickS t44 t55_1 (.bool false)) fun t56 => 
 gd t56 true (fun k_13 w_40 => k_13 t23 w_40) (fun t58_1 w_41 => 
 gd t56 true (fun k_14 w_42 => pur Try.prog (Op.unary .not t58_1) fun t59 => k_14 t59 w_42) (fun t59_1 w_43 => 
 pur Try.prog (pickS t56 t59_1 (.bool false)) fun t60 => 
 gd t60 true (fun k_15 w_44 => k_15 t29 w_44) (fun t62_1 w_45 => 
 gd t60 true (fun k_16 w_46 => pur Try.prog (Op.unary .not t62_1) fun t63 => k_16 t63 w_46) (fun t63_1 w_47 => 
 pur Try.prog (pickS t60 t63_1 (.bool false)) fun t64 => 
 gd t64 true (fun k_17 w_48 => k_17 t36 w_48) (fun t66_1 w_49 => 
 gd t64 true (fun k_18 w_50 => pur Try.prog (Op.unary .not t66_1) fun t67 => k_18 t67 w_50) (fun t67_1 w_51 => 
 pur Try.prog (pickS t64 t67_1 (.bool false)) fun t68 => 
 gd t68 true (fun k_19 w_52 => k_19 (.pointer none) w_52) (fun t70_1 w_53 => 
 gd t68 true (fun k_20 w_54 => rd Try.prog (Instr.loadAt 25 t3) (fun t71 => k_20 t71 w_54) w_54) (fun t71_1 w_55 => 
 gd t68 true (fun k_21 w_56 => act Try.prog (Instr.buildSlice 27 1 #[(0, t71_1)]) (fun t72 w_57 => k_21 t72 w_57) w_56) (fun t72_1 w_58 => 
 gd t68 true (fun k_22 w_59 => callS Try.prog 25 #[t70_1, t72_1] (fun t73 w_60 => k_22 t73 w_60) w_59) (fun t73_1 w_61 => 
 gd t68 true (fun k_23 w_62 => pur Try.prog (Op.unary .not t73_1) fun t74 => k_23 t74 w_62) (fun t74_1 w_63 => 
 pur Try.prog (pickS t68 t74_1 (.bool false)) fun t75 => 
 gd t75 true (fun k_24 w_64 => k_24 (.pointer none) w_64) (fun t77_1 w_65 => 
 gd t75 true (fun k_25 w_66 => callS Try.prog 19 #[t77_1] (fun t78 w_67 => k_25 t78 w_67) w_66) (fun t78_1 w_68 => 
 gd t75 true (fun k_26 w_69 => pur Try.prog (Builtin.len_ #[27] 3 #[t78_1]) fun t79 => k_26 t79 w_69) (fun t79_1 w_70 => 
 gd t75 true (fun k_27 w_71 => k_27 (.pointer none) w_71) (fun t80_1 w_72 => 
 gd t75 true (fun k_28 w_73 => callS Try.prog 14 #[t80_1] (fun t81 w_74 => k_28 t81 w_74) w_73) (fun t81_1 w_75 => 
 gd t75 true (fun k_29 w_76 => pur Try.prog (Builtin.len_ #[33] 3 #[t81_1]) fun t82 => k_29 t82 w_76) (fun t82_1 w_77 => 
 gd t75 true (fun k_30 w_78 => pur Try.prog (binS .add 3 false false t79_1 t82_1) fun t83 => k_30 t83 w_78) (fun t83_1 w_79 => 
 gd t75 true (fun k_31 w_80 => k_31 (.pointer none) w_80) (fun t84_1 w_81 => 
 gd t75 true (fun k_32 w_82 => callS Try.prog 20 #[t84_1] (fun t85 w_83 => k_32 t85 w_83) w_82) (fun t85_1 w_84 => 
 gd t75 true (fun k_33 w_85 => pur Try.prog (Builtin.len_ #[27] 3 #[t85_1]) fun t86 => k_33 t86 w_85) (fun t86_1 w_86 => 
 gd t75 true (fun k_34 w_87 => pur Try.prog (binS .add 3 false false t83_1 t86_1) fun t87 => k_34 t87 w_87) (fun t87_1 w_88 => 
 gd t75 true (fun k_35 w_89 => k_35 (.pointer none) w_89) (fun t88_1 w_90 => 
 gd t75 true (fun k_36 w_91 => callS Try.prog 26 #[t88_1] (fun t89 w_92 => k_36 t89 w_92) w_91) (fun t89_1 w_93 => 
 gd t75 true (fun k_37 w_94 => pur Try.prog (binS .add 3 false false t87_1 t89_1) fun t90 => k_37 t90 w_94) (fun t90_1 w_95 => 
 gd t75 true (fun k_38 w_96 => pur Try.prog (binS .eql 3 false true t90_1 (.int .i64 0)) fun t91 => k_38 t91 w_96) (fun t91_1 w_97 => 
 pur Try.prog (pickS t75 t91_1 (.bool false)) fun t92 => 
 gd t92 true (fun k_39 w_98 => k_39 (.pointer none) w_98) (fun t94_1 w_99 => 
 gd t92 true (fun k_40 w_100 => callS Try.prog 17 #[t94_1] (fun t95 w_101 => k_40 t95 w_101) w_100) (fun t95_1 w_102 => 
 gd t92 true (fun k_41 w_103 => pur Try.prog (binS .eql 37 false true t95_1 (.int .i64 0)) fun t96 => k_41 t96 w_103) (fun t96_1 w_104 => 
 pur Try.prog (pickS t92 t96_1 (.bool false)) fun t97 => 
 gd t97 true (fun k_42 w_105 => k_42 (.pointer none) w_105) (fun t99_1 w_106 => 
 gd t97 true (fun k_43 w_107 => callS Try.prog 27 #[t99_1] (fun t100 w_108 => k_43 t100 w_108) w_107) (fun t100_1 w_109 => 
 gd t97 true (fun k_44 w_110 => pur Try.prog (binS .eql 32 false true t100_1 (.int .u64 0)) fun t101 => k_44 t101 w_110) (fun t101_1 w_111 => 
 pur Try.prog (pickS t97 t101_1 (.bool false)) fun t102 => 
 Q t102 w_111) w_109) w_106) w_104) w_102) w_99) w_97) w_95) w_93) w_90) w_88) w_86) w_84) w_81) w_79) w_77) w_75) w_72) w_70) w_68) w_65) w_63) w_61) w_58) w_55) w_53) w_51) w_49) w_47) w_45) w_43) w_41) w_39) w_37) w_35) w_33) w_31) w_29) w_27) w_25) w_23) w_21) w_19) w_17) w_14) w_12) w_11) w_10) w_9) w_8) w_7) w_6) w_6) w_5) w_5) w_4) w_2) w_2)) w_2) w_1) w
theorem eq8 (v_m v_l : Value) (Q : Value → World → Prop) (w : World) : semF Try.prog 8 [v_m, v_l] Q w = S8 v_m v_l Q w := by kernel_rfl
theorem ref8 {v_m v_l : Value} {Q : Value → World → Prop} {w : World} (h : S8 v_m v_l Q w) : callS Try.prog 8 #[v_m, v_l] Q w :=
  callS_of mix (fun a w => Try.call8 a w) (by kernel_rfl) (by rw [eq8]; exact h)
-- commons/commonslaw22.may
def S9 (v_l : Value) (Q : Value → World → Prop) (w : World) : Prop :=
 lp 1 (fun J => fun v_i w_1 => ∀ _j : Fr, 
  pur Try.prog (Builtin.len_ #[27] 3 #[v_l]) fun t6 => 
  pur Try.prog (binS .lss 3 false false v_i t6) fun t7 => 
  condS t7
   (pur Try.prog (Instr.indexAt 27 v_l v_i) fun t12 => 
  pur Try.prog (Instr.fieldAt 25 t12 0) fun t13 => 
  pur Try.prog (Instr.fieldAt 23 t13 0) fun t14 => 
  rd Try.prog (Instr.loadAt 3 t14) (fun t15 => 
  pur Try.prog (binS .lss 3 false true t15 (.int .i64 0)) fun t16 => 
  gd t16 false (fun k w_2 => k v_l w_2) (fun t18_1 w_3 => 
  gd t16 false (fun k_1 w_4 => k_1 v_i w_4) (fun t19_1 w_5 => 
  gd t16 false (fun k_2 w_6 => pur Try.prog (Instr.indexAt 27 t18_1 t19_1) fun t20 => k_2 t20 w_6) (fun t20_1 w_7 => 
  gd t16 false (fun k_3 w_8 => pur Try.prog (Instr.fieldAt 25 t20_1 0) fun t21 => k_3 t21 w_8) (fun t21_1 w_9 => 
  gd t16 false (fun k_4 w_10 => pur Try.prog (Instr.fieldAt 23 t21_1 0) fun t22 => k_4 t22 w_10) (fun t22_1 w_11 => 
  gd t16 false (fun k_5 w_12 => rd Try.prog (Instr.loadAt 3 t22_1) (fun t23 => k_5 t23 w_12) w_12) (fun t23_1 w_13 => 
  gd t16 false (fun k_6 w_14 => k_6 v_l w_14) (fun t24_1 w_15 => 
  gd t16 false (fun k_7 w_16 => k_7 v_i w_16) (fun t25_1 w_17 => 
  gd t16 false (fun k_8 w_18 => pur Try.prog (Instr.indexAt 27 t24_1 t25_1) fun t26 => k_8 t26 w_18) (fun t26_1 w_19 => 
  gd t16 false (fun k_9 w_20 => pur Try.prog (Instr.fieldAt 25 t26_1 0) fun t27 => k_9 t27 w_20) (fun t27_1 w_21 => 
  gd t16 false (fun k_10 w_22 => pur Try.prog (Instr.fieldAt 23 t27_1 1) fun t28 => k_10 t28 w_22) (fun t28_1 w_23 => 
  gd t16 false (fun k_11 w_24 => rd Try.prog (Instr.loadAt 3 t28_1) (fun t29 => k_11 t29 w_24) w_24) (fun t29_1 w_25 => 
  gd t16 false (fun k_12 w_26 => pur Try.prog (binS .geq 3 false false t23_1 t29_1) fun t30 => k_12 t30 w_26) (fun t30_1 w_27 => 
  pur Try.prog (pickS t16 (.bool true) t30_1) fun t31 => 
  gd t31 false (fun k_13 w_28 => k_13 v_l w_28) (fun t33_1 w_29 => 
  gd t31 false (fun k_14 w_30 => k_14 v_i w_30) (fun t34_1 w_31 => 
  gd t31 false (fun k_15 w_32 => pur Try.prog (Instr.indexAt 27 t33_1 t34_1) fun t35 => k_15 t35 w_32) (fun t35_1 w_33 => 
  gd t31 false (fun k_16 w_34 => pur Try.prog (Instr.fieldAt 25 t35_1 0) fun t36 => k_16 t36 w_34) (fun t36_1 w_35 => 
  gd t31 false (fun k_17 w_36 => pur Try.prog (Instr.fieldAt 23 t36_1 1) fun t37 => k_17 t37 w_36) (fun t37_1 w_37 => 
  gd t31 false (fun k_18 w_38 => rd Try.prog (Instr.loadAt 3 t37_1) (fun t38 => k_18 t38 w_38) w_38) (fun t38_1 w_39 => 
  gd t31 false (fun k_19 w_40 => pur Try.prog (binS .gtr 3 false true t38_1 (.int .i64 4096)) fun t39 => k_19 t39 w_40) (fun t39_1 w_41 => 
  pur Try.prog (pickS t31 (.bool true) t39_1) fun t40 => 
  gd t40 false (fun k_20 w_42 => k_20 v_l w_42) (fun t42_1 w_43 => 
  gd t40 false (fun k_21 w_44 => k_21 v_i w_44) (fun t43_1 w_45 => 
  gd t40 false (fun k_22 w_46 => pur Try.prog (Instr.indexAt 27 t42_1 t43_1) fun t44 => k_22 t44 w_46) (fun t44_1 w_47 => 
  gd t40 false (fun k_23 w_48 => pur Try.prog (Instr.fieldAt 25 t44_1 1) fun t45 => k_23 t45 w_48) (fun t45_1 w_49 => 
  gd t40 false (fun k_24 w_50 => rd Try.prog (Instr.loadAt 3 t45_1) (fun t46 => k_24 t46 w_50) w_50) (fun t46_1 w_51 => 
  gd t40 false (fun k_25 w_52 => callS Try.prog 28 #[t46_1] (fun t47 w_53 => k_25 t47 w_53) w_52) (fun t47_1 w_54 => 
  gd t40 false (fun k_26 w_55 => pur Try.prog (Op.unary .not t47_1) fun t48 => k_26 t48 w_55) (fun t48_1 w_56 => 
  pur Try.prog (pickS t40 (.bool true) t48_1) fun t49 => 
  condS t49
   (Q (.bool false) w_56)
   (pur Try.prog (binS .add 3 false true v_i (.int .i64 1)) fun t9 => 
  J t9 w_56)) w_54) w_51) w_49) w_47) w_45) w_43) w_41) w_39) w_37) w_35) w_33) w_31) w_29) w_27) w_25) w_23) w_21) w_19) w_17) w_15) w_13) w_11) w_9) w_7) w_5) w_3) (World.drew w_1)) (World.drew w_1))
   (Q (.bool true) w_1)) [(.int .i64 0)] w
theorem eq9 (v_l : Value) (Q : Value → World → Prop) (w : World) : semF Try.prog 9 [v_l] Q w = S9 v_l Q w := by kernel_rfl
theorem ref9 {v_l : Value} {Q : Value → World → Prop} {w : World} (h : S9 v_l Q w) : callS Try.prog 9 #[v_l] Q w :=
  callS_of mix (fun a w => Try.call9 a w) (by kernel_rfl) (by rw [eq9]; exact h)
-- commons/commonslaw22.alive
def S10 (Q : Value → World → Prop) (w : World) : Prop :=
 callS Try.prog 11 #[(.int .i64 1)] (fun t8 w_1 => 
 rd Try.prog (binS .eql 29 false true t8 (.pointer none)) (fun t10 => 
 gd t10 false (fun k w_2 => k t8 w_2) (fun t12_1 w_3 => 
 gd t10 false (fun k_1 w_4 => callS Try.prog 12 #[t12_1, (.int .u64 5), (.int .i64 1)] (fun t13 w_5 => k_1 t13 w_5) w_4) (fun t13_1 w_6 => 
 gd t10 false (fun k_2 w_7 => pur Try.prog (Op.unary .not t13_1) fun t14 => k_2 t14 w_7) (fun t14_1 w_8 => 
 pur Try.prog (pickS t10 (.bool true) t14_1) fun t15 => 
 condS t15
  (Q (.bool false) w_8)
  (pur Try.prog (Instr.build 23 #[(1, (.int .i64 3))]) fun t16 => 
 pur Try.prog (Instr.build 25 #[(0, t16), (1, (.int .i64 1))]) fun t17 => 
 act Try.prog (Instr.alloc 25 true (.tuple #[])) (fun t2 w_9 => 
 act Try.prog (thenU (Instr.storeAt 25 t2 t17)) (fun _ w_10 => 
 rd Try.prog (Instr.loadAt 25 t2) (fun t20 => 
 act Try.prog (Instr.buildSlice 27 1 #[(0, t20)]) (fun t21 w_11 => 
 callS Try.prog 13 #[t8, t21] (fun t22 w_12 => 
 pur Try.prog (Instr.extract t22 0) fun t23 => 
 pur Try.prog (Instr.extract t22 1) fun t24 => 
 gd t24 false (fun k_3 w_13 => k_3 t23 w_13) (fun t27_1 w_14 => 
 gd t24 false (fun k_4 w_15 => pur Try.prog (Builtin.len_ #[33] 3 #[t27_1]) fun t28 => k_4 t28 w_15) (fun t28_1 w_16 => 
 gd t24 false (fun k_5 w_17 => pur Try.prog (binS .neq 3 false true t28_1 (.int .i64 1)) fun t29 => k_5 t29 w_17) (fun t29_1 w_18 => 
 pur Try.prog (pickS t24 (.bool true) t29_1) fun t30 => 
 gd t30 false (fun k_6 w_19 => k_6 t23 w_19) (fun t32_1 w_20 => 
 gd t30 false (fun k_7 w_21 => pur Try.prog (Instr.indexAt 33 t32_1 (.int .i64 0)) fun t33 => k_7 t33 w_21) (fun t33_1 w_22 => 
 gd t30 false (fun k_8 w_23 => pur Try.prog (Instr.fieldAt 39 t33_1 0) fun t34 => k_8 t34 w_23) (fun t34_1 w_24 => 
 gd t30 false (fun k_9 w_25 => rd Try.prog (Instr.loadAt 3 t34_1) (fun t35 => k_9 t35 w_25) w_25) (fun t35_1 w_26 => 
 gd t30 false (fun k_10 w_27 => pur Try.prog (binS .neq 3 false true t35_1 (.int .i64 5)) fun t36 => k_10 t36 w_27) (fun t36_1 w_28 => 
 pur Try.prog (pickS t30 (.bool true) t36_1) fun t37 => 
 condS t37
  (Q (.bool false) w_28)
  (∃ S : World → Prop, S (World.drew w_28) ∧ 
 pur Try.prog (Instr.indexAt 33 t23 (.int .i64 0)) fun t41 => 
 pur Try.prog (Instr.fieldAt 39 t41 1) fun t42 => 
 hld Try.prog S (Instr.loadAt 3 t42) fun t43 => 
 hld Try.prog S (Instr.loadAt 25 t2) fun t44 => 
 act Try.prog (Instr.buildSlice 27 1 #[(0, t44)]) (fun t45 w_29 => S w_29 ∧ 
 pur Try.prog (Instr.build 39 #[(0, (.int .i64 6)), (1, t43), (5, (.int .u64 5)), (3, (.int .i64 1)), (7, t45)]) fun t46 => 
 callS Try.prog 15 #[t8, t46] (fun t47 w_30 => S w_30 ∧ 
 pur Try.prog (Instr.extract t47 0) fun _ => 
 pur Try.prog (Instr.extract t47 1) fun t49 => 
 callS Try.prog 20 #[t8] (fun t51 w_31 => 
 gd t49 true (fun k_11 w_32 => k_11 t8 w_32) (fun t54_1 w_33 => 
 gd t49 true (fun k_12 w_34 => rd Try.prog (Instr.loadAt 25 t2) (fun t55 => k_12 t55 w_34) w_34) (fun t55_1 w_35 => 
 gd t49 true (fun k_13 w_36 => act Try.prog (Instr.buildSlice 27 1 #[(0, t55_1)]) (fun t56 w_37 => k_13 t56 w_37) w_36) (fun t56_1 w_38 => 
 gd t49 true (fun k_14 w_39 => callS Try.prog 16 #[t54_1, t56_1] (fun t57 w_40 => k_14 t57 w_40) w_39) (fun t57_1 w_41 => 
 pur Try.prog (pickS t49 t57_1 (.bool false)) fun t58 => 
 gd t58 true (fun k_15 w_42 => k_15 t51 w_42) (fun t60_1 w_43 => 
 gd t58 true (fun k_16 w_44 => pur Try.prog (Builtin.len_ #[27] 3 #[t60_1]) fun t61 => k_16 t61 w_44) (fun t61_1 w_45 => 
 gd t58 true (fun k_17 w_46 => pur Try.prog (binS .eql 3 false true t61_1 (.int .i64 1)) fun t62 => k_17 t62 w_46) (fun t62_1 w_47 => 
 pur Try.prog (pickS t58 t62_1 (.bool false)) fun t63 => 
 gd t63 true (fun k_18 w_48 => k_18 t51 w_48) (fun t65_1 w_49 => 
 gd t63 true (fun k_19 w_50 => pur Try.prog (Instr.indexAt 27 t65_1 (.int .i64 0)) fun t66 => k_19 t66 w_50) (fun t66_1 w_51 => 
 gd t63 true (fun k_20 w_52 => rd Try.prog (Instr.loadAt 25 t66_1) (fun t67 => k_20 t67 w_52) w_52) (fun t67_1 w_53 => 
 gd t63 true (fun k_21 w_54 => rd Try.prog (Instr.loadAt 25 t2) (fun t68 => k_21 t68 w_54) w_54) (fun t68_1 w_55 => 
 gd t63 true (fun k_22 w_56 => rd Try.prog (binS .eql 25 false false t67_1 t68_1) (fun t69 => k_22 t69 w_56) w_56) (fun t69_1 w_57 => 
 pur Try.prog (pickS t63 t69_1 (.bool false)) fun t70 => 
 gd t70 true (fun k_23 w_58 => k_23 t8 w_58) (fun t72_1 w_59 => 
 gd t70 true (fun k_24 w_60 => callS Try.prog 27 #[t72_1] (fun t73 w_61 => k_24 t73 w_61) w_60) (fun t73_1 w_62 => 
 gd t70 true (fun k_25 w_63 => pur Try.prog (binS .eql 32 false true t73_1 (.int .u64 5)) fun t74 => k_25 t74 w_63) (fun t74_1 w_64 => 
 pur Try.prog (pickS t70 t74_1 (.bool false)) fun t75 => 
 gd t75 true (fun k_26 w_65 => k_26 t8 w_65) (fun t77_1 w_66 => 
 gd t75 true (fun k_27 w_67 => callS Try.prog 26 #[t77_1] (fun t78 w_68 => k_27 t78 w_68) w_67) (fun t78_1 w_69 => 
 gd t75 true (fun k_28 w_70 => pur Try.prog (binS .eql 3 false true t78_1 (.int .i64 1)) fun t79 => k_28 t79 w_70) (fun t79_1 w_71 => 
 pur Try.prog (pickS t75 t79_1 (.bool false)) fun t80 => 
 Q t80 w_71) w_69) w_66) w_64) w_62) w_59) w_57) w_55) w_53) w_51) w_49) w_47) w_45) w_43) w_41) w_38) w_35) w_33) (World.drew w_31)) w_30) w_29) (World.drew w_28))) w_26) w_24) w_22) w_20) w_18) w_16) w_14) w_12) w_11) w_10) w_10) w_9) w_8)) w_6) w_3) w_1) w_1) w
theorem eq10 (Q : Value → World → Prop) (w : World) : semF Try.prog 10 [] Q w = S10 Q w := by kernel_rfl
theorem ref10 {Q : Value → World → Prop} {w : World} (h : S10 Q w) : callS Try.prog 10 #[] Q w :=
  callS_of mix (fun a w => Try.call10 a w) (by kernel_rfl) (by rw [eq10]; exact h)
-- commons/clerk.New
def S11 (v_node : Value) (Q : Value → World → Prop) (w : World) : Prop :=
 pur Try.prog (Instr.build 65 #[(0, v_node)]) fun t5 => 
 act Try.prog (Instr.box 65 t5) (fun t6 w_1 => 
 callS Try.prog 29 #[t6] (fun _ w_2 => 
 Q t6 w_2) w_1) w
theorem eq11 (v_node : Value) (Q : Value → World → Prop) (w : World) : semF Try.prog 11 [v_node] Q w = S11 v_node Q w := by kernel_rfl
theorem ref11 {v_node : Value} {Q : Value → World → Prop} {w : World} (h : S11 v_node Q w) : callS Try.prog 11 #[v_node] Q w :=
  callS_of mix (fun a w => Try.call11 a w) (by kernel_rfl) (by rw [eq11]; exact h)
-- (*commons/clerk.Clerk).Join
def S12 (v_c v_epoch v_gen : Value) (Q : Value → World → Prop) (w : World) : Prop :=
 callS Try.prog 30 #[v_c] (fun t8 w_1 => 
 gd t8 false (fun k w_2 => k v_epoch w_2) (fun t10_1 w_3 => 
 gd t8 false (fun k_1 w_4 => k_1 v_c w_4) (fun t11_1 w_5 => 
 gd t8 false (fun k_2 w_6 => pur Try.prog (nilV t11_1) fun t12 => k_2 t12 w_6) (fun t12_1 w_7 => 
 gd t8 false (fun k_3 w_8 => pur Try.prog (Instr.fieldAt 65 t12_1 1) fun t13 => k_3 t13 w_8) (fun t13_1 w_9 => 
 gd t8 false (fun k_4 w_10 => rd Try.prog (Instr.loadAt 32 t13_1) (fun t14 => k_4 t14 w_10) w_10) (fun t14_1 w_11 => 
 gd t8 false (fun k_5 w_12 => pur Try.prog (binS .leq 32 false false t10_1 t14_1) fun t15 => k_5 t15 w_12) (fun t15_1 w_13 => 
 pur Try.prog (pickS t8 (.bool true) t15_1) fun t16 => 
 gd t16 false (fun k_6 w_14 => k_6 v_gen w_14) (fun t18_1 w_15 => 
 gd t16 false (fun k_7 w_16 => pur Try.prog (binS .lss 3 false true t18_1 (.int .i64 1)) fun t19 => k_7 t19 w_16) (fun t19_1 w_17 => 
 pur Try.prog (pickS t16 (.bool true) t19_1) fun t20 => 
 condS t20
  (Q (.bool false) w_17)
  (pur Try.prog (nilV v_c) fun t23 => 
 pur Try.prog (Instr.fieldAt 65 t23 0) fun t24 => 
 rd Try.prog (Instr.loadAt 3 t24) (fun t25 => 
 pur Try.prog (nilV v_c) fun t29 => 
 pur Try.prog (Instr.fieldAt 65 t29 7) fun t30 => 
 rd Try.prog (Instr.loadAt 3 t30) (fun t31 => 
 pur Try.prog (Instr.build 65 #[(0, t25), (1, v_epoch), (2, v_gen), (7, t31)]) fun t32 => 
 pur Try.prog (nilV v_c) fun t33 => 
 act Try.prog (thenU (Instr.storeAt 65 t33 t32)) (fun _ w_18 => 
 callS Try.prog 29 #[v_c] (fun _ w_19 => 
 Q (.bool true) w_19) w_18) (World.drew w_17)) (World.drew w_17)) (World.drew w_17))) w_15) w_13) w_11) w_9) w_7) w_5) w_3) w_1) w
theorem eq12 (v_c v_epoch v_gen : Value) (Q : Value → World → Prop) (w : World) : semF Try.prog 12 [v_c, v_epoch, v_gen] Q w = S12 v_c v_epoch v_gen Q w := by kernel_rfl
theorem ref12 {v_c v_epoch v_gen : Value} {Q : Value → World → Prop} {w : World} (h : S12 v_c v_epoch v_gen Q w) : callS Try.prog 12 #[v_c, v_epoch, v_gen] Q w :=
  callS_of mix (fun a w => Try.call12 a w) (by kernel_rfl) (by rw [eq12]; exact h)
-- (*commons/clerk.Clerk).Want
def S13 (v_c v_l : Value) (Q : Value → World → Prop) (w : World) : Prop :=
 callS Try.prog 30 #[v_c] (fun t7 w_1 => 
 gd t7 false (fun k w_2 => k v_c w_2) (fun t9_1 w_3 => 
 gd t7 false (fun k_1 w_4 => pur Try.prog (nilV t9_1) fun t10 => k_1 t10 w_4) (fun t10_1 w_5 => 
 gd t7 false (fun k_2 w_6 => pur Try.prog (Instr.fieldAt 65 t10_1 1) fun t11 => k_2 t11 w_6) (fun t11_1 w_7 => 
 gd t7 false (fun k_3 w_8 => rd Try.prog (Instr.loadAt 32 t11_1) (fun t12 => k_3 t12 w_8) w_8) (fun t12_1 w_9 => 
 gd t7 false (fun k_4 w_10 => pur Try.prog (binS .eql 32 false true t12_1 (.int .u64 0)) fun t13 => k_4 t13 w_10) (fun t13_1 w_11 => 
 pur Try.prog (pickS t7 (.bool true) t13_1) fun t14 => 
 condS t14
  (Q (.tuple #[(.slice none 0 0), (.bool false)]) w_11)
  (callS Try.prog 31 #[v_l] (fun t17 w_12 => 
 pur Try.prog (nilV v_c) fun t18 => 
 pur Try.prog (Instr.fieldAt 65 t18 6) fun t19 => 
 act Try.prog (thenU (Instr.storeAt 27 t19 t17)) (fun _ w_13 => 
 callS Try.prog 32 #[v_c] (fun t21 w_14 => 
 pur Try.prog (Builtin.len_ #[27] 3 #[t21]) fun t22 => 
 pur Try.prog (binS .eql 3 false true t22 (.int .i64 0)) fun t23 => 
 condS t23
  (Q (.tuple #[(.slice none 0 0), (.bool true)]) w_14)
  (callS Try.prog 33 #[v_c] (fun t25 w_15 => 
 Q (.tuple #[t25, (.bool false)]) w_15) w_14)) w_13) w_12) w_11)) w_9) w_7) w_5) w_3) w_1) w
theorem eq13 (v_c v_l : Value) (Q : Value → World → Prop) (w : World) : semF Try.prog 13 [v_c, v_l] Q w = S13 v_c v_l Q w := by kernel_rfl
theorem ref13 {v_c v_l : Value} {Q : Value → World → Prop} {w : World} (h : S13 v_c v_l Q w) : callS Try.prog 13 #[v_c, v_l] Q w :=
  callS_of mix (fun a w => Try.call13 a w) (by kernel_rfl) (by rw [eq13]; exact h)
-- (*commons/clerk.Clerk).Quit
def S14 (v_c : Value) (Q : Value → World → Prop) (w : World) : Prop :=
 callS Try.prog 30 #[v_c] (fun t4 w_1 => 
 condS t4
  (Q (.slice none 0 0) w_1)
  (pur Try.prog (nilV v_c) fun t6 => 
 pur Try.prog (Instr.fieldAt 65 t6 6) fun t7 => 
 act Try.prog (thenU (Instr.storeAt 27 t7 (.slice none 0 0))) (fun _ w_2 => 
 pur Try.prog (nilV v_c) fun t9 => 
 pur Try.prog (Instr.fieldAt 65 t9 8) fun t10 => 
 rd Try.prog (Instr.loadAt 4 t10) (fun t11 => 
 pur Try.prog (Op.unary .not t11) fun t12 => 
 gd t12 false (fun k w_3 => k v_c w_3) (fun t14_1 w_4 => 
 gd t12 false (fun k_1 w_5 => pur Try.prog (nilV t14_1) fun t15 => k_1 t15 w_5) (fun t15_1 w_6 => 
 gd t12 false (fun k_2 w_7 => pur Try.prog (Instr.fieldAt 65 t15_1 9) fun t16 => k_2 t16 w_7) (fun t16_1 w_8 => 
 gd t12 false (fun k_3 w_9 => rd Try.prog (Instr.loadAt 4 t16_1) (fun t17 => k_3 t17 w_9) w_9) (fun t17_1 w_10 => 
 pur Try.prog (pickS t12 (.bool true) t17_1) fun t18 => 
 condS t18
  (Q (.slice none 0 0) w_10)
  (pur Try.prog (nilV v_c) fun t20 => 
 pur Try.prog (Instr.fieldAt 65 t20 9) fun t21 => 
 act Try.prog (thenU (Instr.storeAt 4 t21 (.bool true))) (fun _ w_11 => 
 pur Try.prog (nilV v_c) fun t24 => 
 pur Try.prog (Instr.fieldAt 65 t24 7) fun t25 => 
 rd Try.prog (Instr.loadAt 3 t25) (fun t26 => 
 pur Try.prog (Instr.build 39 #[(0, (.int .i64 15)), (1, t26)]) fun t27 => 
 callS Try.prog 34 #[v_c, t27] (fun t28 w_12 => 
 act Try.prog (Instr.buildSlice 33 1 #[(0, t28)]) (fun t29 w_13 => 
 Q t29 w_13) w_12) w_11) w_11) w_10)) w_8) w_6) w_4) w_2) w_2) w_1)) w
theorem eq14 (v_c : Value) (Q : Value → World → Prop) (w : World) : semF Try.prog 14 [v_c] Q w = S14 v_c Q w := by kernel_rfl
theorem ref14 {v_c : Value} {Q : Value → World → Prop} {w : World} (h : S14 v_c Q w) : callS Try.prog 14 #[v_c] Q w :=
  callS_of mix (fun a w => Try.call14 a w) (by kernel_rfl) (by rw [eq14]; exact h)
-- (*commons/clerk.Clerk).Take
def S15 (v_c v_m : Value) (Q : Value → World → Prop) (w : World) : Prop :=
 act Try.prog (Instr.box 39 v_m) (fun t3 w_1 => 
 callS Try.prog 30 #[v_c] (fun t7 w_2 => 
 gd t7 false (fun k w_3 => k v_c w_3) (fun t9_1 w_4 => 
 gd t7 false (fun k_1 w_5 => pur Try.prog (nilV t9_1) fun t10 => k_1 t10 w_5) (fun t10_1 w_6 => 
 gd t7 false (fun k_2 w_7 => pur Try.prog (Instr.fieldAt 65 t10_1 1) fun t11 => k_2 t11 w_7) (fun t11_1 w_8 => 
 gd t7 false (fun k_3 w_9 => rd Try.prog (Instr.loadAt 32 t11_1) (fun t12 => k_3 t12 w_9) w_9) (fun t12_1 w_10 => 
 gd t7 false (fun k_4 w_11 => pur Try.prog (binS .eql 32 false true t12_1 (.int .u64 0)) fun t13 => k_4 t13 w_11) (fun t13_1 w_12 => 
 pur Try.prog (pickS t7 (.bool true) t13_1) fun t14 => 
 gd t14 false (fun k_5 w_13 => pur Try.prog (Instr.fieldAt 39 t3 3) fun t16 => k_5 t16 w_13) (fun t16_1 w_14 => 
 gd t14 false (fun k_6 w_15 => rd Try.prog (Instr.loadAt 3 t16_1) (fun t17 => k_6 t17 w_15) w_15) (fun t17_1 w_16 => 
 gd t14 false (fun k_7 w_17 => k_7 v_c w_17) (fun t18_1 w_18 => 
 gd t14 false (fun k_8 w_19 => pur Try.prog (nilV t18_1) fun t19 => k_8 t19 w_19) (fun t19_1 w_20 => 
 gd t14 false (fun k_9 w_21 => pur Try.prog (Instr.fieldAt 65 t19_1 2) fun t20 => k_9 t20 w_21) (fun t20_1 w_22 => 
 gd t14 false (fun k_10 w_23 => rd Try.prog (Instr.loadAt 3 t20_1) (fun t21 => k_10 t21 w_23) w_23) (fun t21_1 w_24 => 
 gd t14 false (fun k_11 w_25 => pur Try.prog (binS .lss 3 false false t17_1 t21_1) fun t22 => k_11 t22 w_25) (fun t22_1 w_26 => 
 pur Try.prog (pickS t14 (.bool true) t22_1) fun t23 => 
 gd t23 false (fun k_12 w_27 => pur Try.prog (Instr.fieldAt 39 t3 5) fun t25 => k_12 t25 w_27) (fun t25_1 w_28 => 
 gd t23 false (fun k_13 w_29 => rd Try.prog (Instr.loadAt 32 t25_1) (fun t26 => k_13 t26 w_29) w_29) (fun t26_1 w_30 => 
 gd t23 false (fun k_14 w_31 => k_14 v_c w_31) (fun t27_1 w_32 => 
 gd t23 false (fun k_15 w_33 => pur Try.prog (nilV t27_1) fun t28 => k_15 t28 w_33) (fun t28_1 w_34 => 
 gd t23 false (fun k_16 w_35 => pur Try.prog (Instr.fieldAt 65 t28_1 1) fun t29 => k_16 t29 w_35) (fun t29_1 w_36 => 
 gd t23 false (fun k_17 w_37 => rd Try.prog (Instr.loadAt 32 t29_1) (fun t30 => k_17 t30 w_37) w_37) (fun t30_1 w_38 => 
 gd t23 false (fun k_18 w_39 => pur Try.prog (binS .neq 32 false false t26_1 t30_1) fun t31 => k_18 t31 w_39) (fun t31_1 w_40 => 
 gd t23 false (fun k_19 w_41 => k_19 t31_1 w_41) (fun t32_1 w_42 => 
 gd t32_1 true (fun k_20 w_43 => pur Try.prog (Instr.fieldAt 39 t3 0) fun t33 => k_20 t33 w_43) (fun t33_1 w_44 => 
 gd t32_1 true (fun k_21 w_45 => rd Try.prog (Instr.loadAt 3 t33_1) (fun t34 => k_21 t34 w_45) w_45) (fun t34_1 w_46 => 
 gd t32_1 true (fun k_22 w_47 => pur Try.prog (binS .neq 3 false true t34_1 (.int .i64 10)) fun t35 => k_22 t35 w_47) (fun t35_1 w_48 => 
 gd t23 false (fun k_23 w_49 => pur Try.prog (pickS t32_1 t35_1 (.bool false)) fun t36 => k_23 t36 w_49) (fun t36_1 w_50 => 
 pur Try.prog (pickS t23 (.bool true) t36_1) fun t37 => 
 condS t37
  (Q (.tuple #[(.slice none 0 0), (.bool false)]) w_50)
  (pur Try.prog (Instr.fieldAt 39 t3 0) fun t38 => 
 rd Try.prog (Instr.loadAt 3 t38) (fun t39 => 
 pur Try.prog (binS .eql 3 false true t39 (.int .i64 6)) fun t41 => 
 condS t41
  (rd Try.prog (Instr.loadAt 39 t3) (fun t43 => 
  callS Try.prog 35 #[v_c, t43] (fun t44 w_51 => 
  Q (.tuple #[t44, (.bool true)]) w_51) w_50) w_50)
  (pur Try.prog (binS .eql 3 false true t39 (.int .i64 7)) fun t46 => 
  condS t46
   (pur Try.prog (nilV v_c) fun t48 => 
   pur Try.prog (Instr.fieldAt 65 t48 8) fun t49 => 
   rd Try.prog (Instr.loadAt 4 t49) (fun t50 => 
   pur Try.prog (Op.unary .not t50) fun t51 => 
   gd t51 false (fun k_24 w_52 => pur Try.prog (Instr.fieldAt 39 t3 1) fun t53 => k_24 t53 w_52) (fun t53_1 w_53 => 
   gd t51 false (fun k_25 w_54 => rd Try.prog (Instr.loadAt 3 t53_1) (fun t54 => k_25 t54 w_54) w_54) (fun t54_1 w_55 => 
   gd t51 false (fun k_26 w_56 => k_26 v_c w_56) (fun t55_1 w_57 => 
   gd t51 false (fun k_27 w_58 => pur Try.prog (nilV t55_1) fun t56 => k_27 t56 w_58) (fun t56_1 w_59 => 
   gd t51 false (fun k_28 w_60 => pur Try.prog (Instr.fieldAt 65 t56_1 7) fun t57 => k_28 t57 w_60) (fun t57_1 w_61 => 
   gd t51 false (fun k_29 w_62 => rd Try.prog (Instr.loadAt 3 t57_1) (fun t58 => k_29 t58 w_62) w_62) (fun t58_1 w_63 => 
   gd t51 false (fun k_30 w_64 => pur Try.prog (binS .neq 3 false false t54_1 t58_1) fun t59 => k_30 t59 w_64) (fun t59_1 w_65 => 
   pur Try.prog (pickS t51 (.bool true) t59_1) fun t60 => 
   condS t60
    (Q (.tuple #[(.slice none 0 0), (.bool false)]) w_65)
    (rd Try.prog (Instr.loadAt 39 t3) (fun t62 => 
   callS Try.prog 36 #[v_c, t62] (fun t63 w_66 => 
   Q (.tuple #[t63, (.bool true)]) w_66) w_65) w_65)) w_63) w_61) w_59) w_57) w_55) w_53) (World.drew w_50)) (World.drew w_50))
   (pur Try.prog (binS .eql 3 false true t39 (.int .i64 8)) fun t65 => 
   condS t65
    (rd Try.prog (Instr.loadAt 39 t3) (fun t67 => 
    callS Try.prog 37 #[v_c, t67] (fun t68 w_67 => 
    Q (.tuple #[t68, (.bool true)]) w_67) w_50) w_50)
    (pur Try.prog (binS .eql 3 false true t39 (.int .i64 10)) fun t70 => 
    condS t70
     (rd Try.prog (Instr.loadAt 39 t3) (fun t72 => 
     callS Try.prog 38 #[v_c, t72] (fun t73 w_68 => 
     Q (.tuple #[t73, (.bool true)]) w_68) w_50) w_50)
     (Q (.tuple #[(.slice none 0 0), (.bool false)]) w_50))))) w_50)) w_48) w_46) w_44) w_42) w_40) w_38) w_36) w_34) w_32) w_30) w_28) w_26) w_24) w_22) w_20) w_18) w_16) w_14) w_12) w_10) w_8) w_6) w_4) w_2) (World.drew w_1)) w
theorem eq15 (v_c v_m : Value) (Q : Value → World → Prop) (w : World) : semF Try.prog 15 [v_c, v_m] Q w = S15 v_c v_m Q w := by kernel_rfl
theorem ref15 {v_c v_m : Value} {Q : Value → World → Prop} {w : World} (h : S15 v_c v_m Q w) : callS Try.prog 15 #[v_c, v_m] Q w :=
  callS_of mix (fun a w => Try.call15 a w) (by kernel_rfl) (by rw [eq15]; exact h)
-- (*commons/clerk.Clerk).Has
def S16 (v_c v_l : Value) (Q : Value → World → Prop) (w : World) : Prop :=
 callS Try.prog 30 #[v_c] (fun t6 w_1 => 
 pur Try.prog (Op.unary .not t6) fun t7 => 
 gd t7 true (fun k w_2 => k v_c w_2) (fun t9_1 w_3 => 
 gd t7 true (fun k_1 w_4 => pur Try.prog (nilV t9_1) fun t10 => k_1 t10 w_4) (fun t10_1 w_5 => 
 gd t7 true (fun k_2 w_6 => pur Try.prog (Instr.fieldAt 65 t10_1 3) fun t11 => k_2 t11 w_6) (fun t11_1 w_7 => 
 gd t7 true (fun k_3 w_8 => rd Try.prog (Instr.loadAt 63 t11_1) (fun t12 => k_3 t12 w_8) w_8) (fun t12_1 w_9 => 
 gd t7 true (fun k_4 w_10 => k_4 v_l w_10) (fun t13_1 w_11 => 
 gd t7 true (fun k_5 w_12 => callS Try.prog 39 #[t12_1, t13_1] (fun t14 w_13 => k_5 t14 w_13) w_12) (fun t14_1 w_14 => 
 pur Try.prog (pickS t7 t14_1 (.bool false)) fun t15 => 
 Q t15 w_14) w_11) w_9) w_7) w_5) w_3) w_1) w
theorem eq16 (v_c v_l : Value) (Q : Value → World → Prop) (w : World) : semF Try.prog 16 [v_c, v_l] Q w = S16 v_c v_l Q w := by kernel_rfl
theorem ref16 {v_c v_l : Value} {Q : Value → World → Prop} {w : World} (h : S16 v_c v_l Q w) : callS Try.prog 16 #[v_c, v_l] Q w :=
  callS_of mix (fun a w => Try.call16 a w) (by kernel_rfl) (by rw [eq16]; exact h)
-- (*commons/clerk.Clerk).Denied
def S17 (v_c : Value) (Q : Value → World → Prop) (w : World) : Prop :=
 rd Try.prog (binS .eql 29 false true v_c (.pointer none)) (fun t5 => 
 condS t5
  (Q (.int .i64 0) w)
  (pur Try.prog (nilV v_c) fun t7 => 
 pur Try.prog (Instr.fieldAt 65 t7 11) fun t8 => 
 rd Try.prog (Instr.loadAt 37 t8) (fun t9 => 
 pur Try.prog (nilV v_c) fun t11 => 
 pur Try.prog (Instr.fieldAt 65 t11 11) fun t12 => 
 act Try.prog (thenU (Instr.storeAt 37 t12 (.int .i64 0))) (fun _ w_1 => 
 Q t9 w_1) w) w)) w
theorem eq17 (v_c : Value) (Q : Value → World → Prop) (w : World) : semF Try.prog 17 [v_c] Q w = S17 v_c Q w := by kernel_rfl
theorem ref17 {v_c : Value} {Q : Value → World → Prop} {w : World} (h : S17 v_c Q w) : callS Try.prog 17 #[v_c] Q w :=
  callS_of mix (fun a w => Try.call17 a w) (by kernel_rfl) (by rw [eq17]; exact h)
-- commons/commonsref14.Norm
def S18 (v_l : Value) (Q : Value → World → Prop) (w : World) : Prop :=
 lp 2 (fun J => fun v_m v_mode w_1 => ∀ _j : Fr, 
  pur Try.prog (binS .leq 3 false true v_mode (.int .i64 2)) fun t7 => 
  condS t7
   (lp 2 (fun J_1 => fun v_m_1 v_i w_2 => ∀ _j : Fr, 
   pur Try.prog (Builtin.len_ #[27] 3 #[v_l]) fun t12 => 
   pur Try.prog (binS .lss 3 false false v_i t12) fun t13 => 
   condS t13
    (jn 1 (fun J_2 => 
    pur Try.prog (Instr.indexAt 27 v_l v_i) fun t18 => 
    pur Try.prog (Instr.fieldAt 25 t18 1) fun t19 => 
    rd Try.prog (Instr.loadAt 3 t19) (fun t20 => 
    pur Try.prog (binS .eql 3 false false t20 v_mode) fun t22 => 
    condS t22
     (pur Try.prog (Instr.indexAt 27 v_l v_i) fun t26 => 
     pur Try.prog (Instr.fieldAt 25 t26 0) fun t27 => 
     rd Try.prog (Instr.loadAt 23 t27) (fun t28 => 
     callS Try.prog 40 #[v_m_1, t28, v_mode] (fun t30 w_3 => 
     J_2 t30 w_3) w_2) w_2)
     (J_2 v_m_1 w_2)) w_2)
   (fun v_m_2 w_4 => ∀ _j : Fr, 
    pur Try.prog (binS .add 3 false true v_i (.int .i64 1)) fun t15 => 
    J_1 v_m_2 t15 w_4))
    (pur Try.prog (binS .add 3 false true v_mode (.int .i64 1)) fun t9 => 
  J v_m_1 t9 w_2)) [v_m, (.int .i64 0)] w_1)
   (Q v_m w_1)) [(.slice none 0 0), (.int .i64 1)] w
theorem eq18 (v_l : Value) (Q : Value → World → Prop) (w : World) : semF Try.prog 18 [v_l] Q w = S18 v_l Q w := by kernel_rfl
theorem ref18 {v_l : Value} {Q : Value → World → Prop} {w : World} (h : S18 v_l Q w) : callS Try.prog 18 #[v_l] Q w :=
  callS_of mix (fun a w => Try.call18 a w) (by kernel_rfl) (by rw [eq18]; exact h)
-- (*commons/clerk.Clerk).Owed
def S19 (v_c : Value) (Q : Value → World → Prop) (w : World) : Prop :=
 callS Try.prog 30 #[v_c] (fun t15 w_1 => 
 condS t15
  (Q (.slice none 0 0) w_1)
  (callS Try.prog 41 #[] (fun t16 w_2 => 
 callS Try.prog 42 #[v_c] (fun t18 w_3 => 
 pur Try.prog (nilV v_c) fun t20 => 
 pur Try.prog (Instr.fieldAt 65 t20 5) fun t21 => 
 rd Try.prog (Instr.loadAt 63 t21) (fun t22 => 
 callS Try.prog 43 #[t22] (fun t23 w_4 => 
 pur Try.prog (Builtin.len_ #[72] 3 #[t23]) fun t24 => 
 lp 1 (fun J => fun t25 w_5 => ∀ _j : Fr, 
  pur Try.prog (binS .lss 3 false false t25 t24) fun t26 => 
  condS t26
   (pur Try.prog (Instr.indexAt 72 t23 t25) fun t27 => 
  rd Try.prog (Instr.loadAt 75 t27) (fun t28 => 
  act Try.prog (Instr.alloc 75 true (.tuple #[])) (fun t6 w_6 => 
  act Try.prog (thenU (Instr.storeAt 75 t6 t28)) (fun _ w_7 => 
  pur Try.prog (Instr.fieldAt 75 t6 0) fun t30 => 
  rd Try.prog (Instr.loadAt 23 t30) (fun t31 => 
  pur Try.prog (Instr.fieldAt 75 t6 1) fun t32 => 
  rd Try.prog (Instr.loadAt 3 t32) (fun t33 => 
  callS Try.prog 44 #[t16, t31, t33] (fun _ w_8 => 
  pur Try.prog (Instr.fieldAt 75 t6 0) fun t36 => 
  rd Try.prog (Instr.loadAt 23 t36) (fun t37 => 
  callS Try.prog 45 #[t18, t37] (fun t38 w_9 => 
  pur Try.prog (Builtin.len_ #[72] 3 #[t38]) fun t39 => 
  lp 1 (fun J_1 => fun t40 w_10 => ∀ _j : Fr, 
   pur Try.prog (binS .lss 3 false false t40 t39) fun t41 => 
   condS t41
    (pur Try.prog (Instr.indexAt 72 t38 t40) fun t42 => 
   rd Try.prog (Instr.loadAt 75 t42) (fun t43 => 
   act Try.prog (Instr.alloc 75 true (.tuple #[])) (fun t8 w_11 => 
   act Try.prog (thenU (Instr.storeAt 75 t8 t43)) (fun _ w_12 => 
   pur Try.prog (Instr.fieldAt 75 t8 0) fun t45 => 
   rd Try.prog (Instr.loadAt 23 t45) (fun t46 => 
   pur Try.prog (Instr.fieldAt 75 t8 1) fun t47 => 
   rd Try.prog (Instr.loadAt 3 t47) (fun t48 => 
   pur Try.prog (Instr.fieldAt 75 t6 1) fun t49 => 
   rd Try.prog (Instr.loadAt 3 t49) (fun t50 => 
   pur Try.prog (Builtin.max_ #[3, 3] 3 #[t48, t50]) fun t51 => 
   callS Try.prog 44 #[t16, t46, t51] (fun _ w_13 => 
   pur Try.prog (binS .add 3 false true t40 (.int .i64 1)) fun t53 => 
   J_1 t53 w_13) w_12) w_12) w_12) w_12) w_11) w_10) w_10)
    (pur Try.prog (binS .add 3 false true t25 (.int .i64 1)) fun t54 => 
  J t54 w_10)) [(.int .i64 0)] w_9) w_8) w_8) w_7) w_7) w_7) w_6) w_5) w_5)
   (callS Try.prog 46 #[t16] (fun t56 w_14 => 
 pur Try.prog (Builtin.len_ #[27] 3 #[t56]) fun t57 => 
 lp 2 (fun J_2 => fun v_out t58 w_15 => ∀ _j : Fr, 
  pur Try.prog (binS .lss 3 false false t58 t57) fun t59 => 
  condS t59
   (pur Try.prog (Instr.indexAt 27 t56 t58) fun t60 => 
  rd Try.prog (Instr.loadAt 25 t60) (fun t61 => 
  act Try.prog (Instr.alloc 25 true (.tuple #[])) (fun t11 w_16 => 
  act Try.prog (thenU (Instr.storeAt 25 t11 t61)) (fun _ w_17 => 
  pur Try.prog (nilV v_c) fun t63 => 
  pur Try.prog (Instr.fieldAt 65 t63 3) fun t64 => 
  rd Try.prog (Instr.loadAt 63 t64) (fun t65 => 
  pur Try.prog (Instr.fieldAt 25 t11 0) fun t66 => 
  rd Try.prog (Instr.loadAt 23 t66) (fun t67 => 
  callS Try.prog 45 #[t65, t67] (fun t68 w_18 => 
  pur Try.prog (Builtin.len_ #[72] 3 #[t68]) fun t69 => 
  lp 2 (fun J_3 => fun v_out_1 t70 w_19 => ∀ _j : Fr, 
   pur Try.prog (binS .lss 3 false false t70 t69) fun t71 => 
   condS t71
    (jn 1 (fun J_4 => 
    pur Try.prog (Instr.indexAt 72 t68 t70) fun t72 => 
    rd Try.prog (Instr.loadAt 75 t72) (fun t73 => 
    act Try.prog (Instr.alloc 75 true (.tuple #[])) (fun t13 w_20 => 
    act Try.prog (thenU (Instr.storeAt 75 t13 t73)) (fun _ w_21 => 
    pur Try.prog (Instr.fieldAt 75 t13 1) fun t74 => 
    rd Try.prog (Instr.loadAt 3 t74) (fun t75 => 
    pur Try.prog (Instr.fieldAt 25 t11 1) fun t76 => 
    rd Try.prog (Instr.loadAt 3 t76) (fun t77 => 
    pur Try.prog (binS .gtr 3 false false t75 t77) fun t78 => 
    condS t78
     (pur Try.prog (Instr.fieldAt 75 t13 0) fun t80 => 
     rd Try.prog (Instr.loadAt 23 t80) (fun t81 => 
     pur Try.prog (Instr.fieldAt 25 t11 1) fun t82 => 
     rd Try.prog (Instr.loadAt 3 t82) (fun t83 => 
     pur Try.prog (Instr.build 25 #[(0, t81), (1, t83)]) fun t84 => 
     act Try.prog (Instr.buildSlice 27 1 #[(0, t84)]) (fun t85 w_22 => 
     act Try.prog (Builtin.append_ #[27, 27] 27 #[v_out_1, t85]) (fun t86 w_23 => 
     J_4 t86 w_23) w_22) w_21) w_21) w_21)
     (J_4 v_out_1 w_21)) w_21) w_21) w_20) w_19) w_19)
   (fun v_out_2 w_24 => ∀ _j : Fr, 
    pur Try.prog (binS .add 3 false true t70 (.int .i64 1)) fun t87 => 
    J_3 v_out_2 t87 w_24))
    (pur Try.prog (binS .add 3 false true t58 (.int .i64 1)) fun t88 => 
  J_2 v_out_1 t88 w_19)) [v_out, (.int .i64 0)] w_18) (World.drew w_17)) (World.drew w_17)) (World.drew w_17)) w_16) w_15) w_15)
   (callS Try.prog 47 #[v_out] (fun t90 w_25 => 
 Q t90 w_25) w_15)) [(.slice none 0 0), (.int .i64 0)] w_14) w_5)) [(.int .i64 0)] w_4) w_3) w_3) w_2) w_1)) w
theorem eq19 (v_c : Value) (Q : Value → World → Prop) (w : World) : semF Try.prog 19 [v_c] Q w = S19 v_c Q w := by kernel_rfl
theorem ref19 {v_c : Value} {Q : Value → World → Prop} {w : World} (h : S19 v_c Q w) : callS Try.prog 19 #[v_c] Q w :=
  callS_of mix (fun a w => Try.call19 a w) (by kernel_rfl) (by rw [eq19]; exact h)
-- (*commons/clerk.Clerk).Held
def S20 (v_c : Value) (Q : Value → World → Prop) (w : World) : Prop :=
 callS Try.prog 30 #[v_c] (fun t4 w_1 => 
 condS t4
  (Q (.slice none 0 0) w_1)
  (pur Try.prog (nilV v_c) fun t6 => 
 pur Try.prog (Instr.fieldAt 65 t6 3) fun t7 => 
 rd Try.prog (Instr.loadAt 63 t7) (fun t8 => 
 callS Try.prog 46 #[t8] (fun t9 w_2 => 
 Q t9 w_2) w_1) w_1)) w
theorem eq20 (v_c : Value) (Q : Value → World → Prop) (w : World) : semF Try.prog 20 [v_c] Q w = S20 v_c Q w := by kernel_rfl
theorem ref20 {v_c : Value} {Q : Value → World → Prop} {w : World} (h : S20 v_c Q w) : callS Try.prog 20 #[v_c] Q w :=
  callS_of mix (fun a w => Try.call20 a w) (by kernel_rfl) (by rw [eq20]; exact h)
-- (*commons/clerk.Clerk).Unuse
def S21 (v_c : Value) (Q : Value → World → Prop) (w : World) : Prop :=
 callS Try.prog 30 #[v_c] (fun t3 w_1 => 
 pur Try.prog (Op.unary .not t3) fun t4 => 
 condS t4
  (callS Try.prog 41 #[] (fun t7 w_2 => 
  pur Try.prog (nilV v_c) fun t8 => 
  pur Try.prog (Instr.fieldAt 65 t8 4) fun t9 => 
  act Try.prog (thenU (Instr.storeAt 63 t9 t7)) (fun _ w_3 => 
  pur Try.prog (nilV v_c) fun t10 => 
  pur Try.prog (Instr.fieldAt 65 t10 6) fun t11 => 
  act Try.prog (thenU (Instr.storeAt 27 t11 (.slice none 0 0))) (fun _ w_4 => 
  Q (.tuple #[]) w_4) w_3) w_2) w_1)
  (Q (.tuple #[]) w_1)) w
theorem eq21 (v_c : Value) (Q : Value → World → Prop) (w : World) : semF Try.prog 21 [v_c] Q w = S21 v_c Q w := by kernel_rfl
theorem ref21 {v_c : Value} {Q : Value → World → Prop} {w : World} (h : S21 v_c Q w) : callS Try.prog 21 #[v_c] Q w :=
  callS_of mix (fun a w => Try.call21 a w) (by kernel_rfl) (by rw [eq21]; exact h)
-- (*commons/clerk.Clerk).Give
def S22 (v_c v_l : Value) (Q : Value → World → Prop) (w : World) : Prop :=
 act Try.prog (Instr.alloc 39 true (.tuple #[])) (fun t4 w_1 => 
 callS Try.prog 30 #[v_c] (fun t10 w_2 => 
 condS t10
  (pur Try.prog (Instr.build 39 #[]) fun t11 => 
  act Try.prog (thenU (Instr.storeAt 39 t4 t11)) (fun _ w_3 => 
  rd Try.prog (resL 39 t4) (fun r => Q (.tuple #[r, (.bool false)]) w_3) w_3) w_2)
  (callS Try.prog 48 #[v_c, v_l] (fun t14 w_4 => 
 pur Try.prog (Builtin.len_ #[27] 3 #[t14]) fun t17 => 
 pur Try.prog (Builtin.min_ #[3, 3] 3 #[t17, (.int .i64 200)]) fun t18 => 
 pur Try.prog (Instr.sliceAt 27 t14 none (some t18) none) fun t19 => 
 pur Try.prog (Builtin.len_ #[27] 3 #[t19]) fun t21 => 
 pur Try.prog (binS .eql 3 false true t21 (.int .i64 0)) fun t22 => 
 condS t22
  (pur Try.prog (Instr.build 39 #[]) fun t23 => 
  act Try.prog (thenU (Instr.storeAt 39 t4 t23)) (fun _ w_5 => 
  rd Try.prog (resL 39 t4) (fun r_1 => Q (.tuple #[r_1, (.bool false)]) w_5) w_5) w_4)
  (pur Try.prog (Builtin.len_ #[27] 3 #[t19]) fun t25 => 
 lp 1 (fun J => fun t26 w_6 => ∀ _j : Fr, 
  pur Try.prog (binS .lss 3 false false t26 t25) fun t27 => 
  condS t27
   (jn 0 (fun J_1 => 
   pur Try.prog (Instr.indexAt 27 t19 t26) fun t28 => 
   rd Try.prog (Instr.loadAt 25 t28) (fun t29 => 
   act Try.prog (Instr.alloc 25 true (.tuple #[])) (fun t8 w_7 => 
   act Try.prog (thenU (Instr.storeAt 25 t8 t29)) (fun _ w_8 => 
   pur Try.prog (nilV v_c) fun t31 => 
   pur Try.prog (Instr.fieldAt 65 t31 5) fun t32 => 
   rd Try.prog (Instr.loadAt 63 t32) (fun t33 => 
   pur Try.prog (Instr.fieldAt 25 t8 0) fun t34 => 
   rd Try.prog (Instr.loadAt 23 t34) (fun t35 => 
   callS Try.prog 49 #[t33, t35] (fun _ w_9 => 
   pur Try.prog (Instr.fieldAt 25 t8 1) fun t37 => 
   rd Try.prog (Instr.loadAt 3 t37) (fun t38 => 
   pur Try.prog (binS .eql 3 false true t38 (.int .i64 0)) fun t39 => 
   condS t39
    (pur Try.prog (nilV v_c) fun t41 => 
    pur Try.prog (Instr.fieldAt 65 t41 3) fun t42 => 
    rd Try.prog (Instr.loadAt 63 t42) (fun t43 => 
    pur Try.prog (Instr.fieldAt 25 t8 0) fun t44 => 
    rd Try.prog (Instr.loadAt 23 t44) (fun t45 => 
    callS Try.prog 49 #[t43, t45] (fun _ w_10 => 
    J_1  w_10) (World.drew w_9)) (World.drew w_9)) (World.drew w_9))
    (pur Try.prog (nilV v_c) fun t48 => 
    pur Try.prog (Instr.fieldAt 65 t48 3) fun t49 => 
    rd Try.prog (Instr.loadAt 63 t49) (fun t50 => 
    pur Try.prog (Instr.fieldAt 25 t8 0) fun t51 => 
    rd Try.prog (Instr.loadAt 23 t51) (fun t52 => 
    pur Try.prog (Instr.fieldAt 25 t8 1) fun t53 => 
    rd Try.prog (Instr.loadAt 3 t53) (fun t54 => 
    callS Try.prog 44 #[t50, t52, t54] (fun _ w_11 => 
    J_1  w_11) (World.drew w_9)) (World.drew w_9)) (World.drew w_9)) (World.drew w_9))) w_9) (World.drew w_8)) (World.drew w_8)) (World.drew w_8)) w_7) w_6) w_6)
  (fun  w_12 => ∀ _j : Fr, 
   pur Try.prog (binS .add 3 false true t26 (.int .i64 1)) fun t56 => 
   J t56 w_12))
   (pur Try.prog (nilV v_c) fun t59 => 
 pur Try.prog (Instr.fieldAt 65 t59 10) fun t60 => 
 rd Try.prog (Instr.loadAt 3 t60) (fun t61 => 
 pur Try.prog (Instr.build 39 #[(0, (.int .i64 9)), (4, t61), (7, t19)]) fun t63 => 
 callS Try.prog 34 #[v_c, t63] (fun t64 w_13 => 
 act Try.prog (thenU (Instr.storeAt 39 t4 t64)) (fun _ w_14 => 
 rd Try.prog (resL 39 t4) (fun r_2 => Q (.tuple #[r_2, (.bool true)]) w_14) w_14) w_13) w_6) w_6)) [(.int .i64 0)] w_4)) w_2)) w_1) w
theorem eq22 (v_c v_l : Value) (Q : Value → World → Prop) (w : World) : semF Try.prog 22 [v_c, v_l] Q w = S22 v_c v_l Q w := by kernel_rfl
theorem ref22 {v_c v_l : Value} {Q : Value → World → Prop} {w : World} (h : S22 v_c v_l Q w) : callS Try.prog 22 #[v_c, v_l] Q w :=
  callS_of mix (fun a w => Try.call22 a w) (by kernel_rfl) (by rw [eq22]; exact h)
-- (commons/commonsref1.Map).Get
def S23 (v_m v_block : Value) (Q : Value → World → Prop) (w : World) : Prop :=
 lp 1 (fun J => fun v_i w_1 => ∀ _j : Fr, 
  pur Try.prog (Builtin.len_ #[44] 3 #[v_m]) fun t9 => 
  pur Try.prog (binS .lss 3 false false v_i t9) fun t10 => 
  condS t10
   (pur Try.prog (Instr.indexAt 44 v_m v_i) fun t15 => 
  pur Try.prog (Instr.fieldAt 82 t15 0) fun t16 => 
  pur Try.prog (Instr.fieldAt 23 t16 0) fun t17 => 
  rd Try.prog (Instr.loadAt 3 t17) (fun t18 => 
  pur Try.prog (binS .leq 3 false false t18 v_block) fun t20 => 
  gd t20 true (fun k w_2 => k v_block w_2) (fun t22_1 w_3 => 
  gd t20 true (fun k_1 w_4 => k_1 v_m w_4) (fun t23_1 w_5 => 
  gd t20 true (fun k_2 w_6 => k_2 v_i w_6) (fun t24_1 w_7 => 
  gd t20 true (fun k_3 w_8 => pur Try.prog (Instr.indexAt 44 t23_1 t24_1) fun t25 => k_3 t25 w_8) (fun t25_1 w_9 => 
  gd t20 true (fun k_4 w_10 => pur Try.prog (Instr.fieldAt 82 t25_1 0) fun t26 => k_4 t26 w_10) (fun t26_1 w_11 => 
  gd t20 true (fun k_5 w_12 => pur Try.prog (Instr.fieldAt 23 t26_1 1) fun t27 => k_5 t27 w_12) (fun t27_1 w_13 => 
  gd t20 true (fun k_6 w_14 => rd Try.prog (Instr.loadAt 3 t27_1) (fun t28 => k_6 t28 w_14) w_14) (fun t28_1 w_15 => 
  gd t20 true (fun k_7 w_16 => pur Try.prog (binS .lss 3 false false t22_1 t28_1) fun t29 => k_7 t29 w_16) (fun t29_1 w_17 => 
  pur Try.prog (pickS t20 t29_1 (.bool false)) fun t30 => 
  condS t30
   (pur Try.prog (Instr.indexAt 44 v_m v_i) fun t33 => 
   pur Try.prog (Instr.fieldAt 82 t33 1) fun t34 => 
   rd Try.prog (Instr.loadAt 3 t34) (fun t35 => 
   Q (.tuple #[t35, (.bool true)]) w_17) w_17)
   (pur Try.prog (binS .add 3 false true v_i (.int .i64 1)) fun t12 => 
  J t12 w_17)) w_15) w_13) w_11) w_9) w_7) w_5) w_3) w_1) w_1)
   (Q (.tuple #[(.int .i64 0), (.bool false)]) w_1)) [(.int .i64 0)] w
theorem eq23 (v_m v_block : Value) (Q : Value → World → Prop) (w : World) : semF Try.prog 23 [v_m, v_block] Q w = S23 v_m v_block Q w := by kernel_rfl
theorem ref23 {v_m v_block : Value} {Q : Value → World → Prop} {w : World} (h : S23 v_m v_block Q w) : callS Try.prog 23 #[v_m, v_block] Q w :=
  callS_of mix (fun a w => Try.call23 a w) (by kernel_rfl) (by rw [eq23]; exact h)
-- commons/commonslaw22.Light
def S24 (v_l : Value) (Q : Value → World → Prop) (w : World) : Prop :=
 lp 1 (fun J => fun v_i w_1 => ∀ _j : Fr, 
  pur Try.prog (Builtin.len_ #[53] 3 #[v_l]) fun t6 => 
  pur Try.prog (binS .lss 3 false false v_i t6) fun t7 => 
  gd t7 true (fun k w_2 => k v_i w_2) (fun t9_1 w_3 => 
  gd t7 true (fun k_1 w_4 => pur Try.prog (binS .lss 3 false true t9_1 (.int .i64 300)) fun t10 => k_1 t10 w_4) (fun t10_1 w_5 => 
  pur Try.prog (pickS t7 t10_1 (.bool false)) fun t11 => 
  condS t11
   (pur Try.prog (Instr.indexAt 53 v_l v_i) fun t16 => 
  pur Try.prog (Instr.fieldAt 56 t16 3) fun t17 => 
  rd Try.prog (Instr.loadAt 27 t17) (fun t18 => 
  pur Try.prog (Builtin.len_ #[27] 3 #[t18]) fun t19 => 
  pur Try.prog (binS .gtr 3 false true t19 (.int .i64 20)) fun t20 => 
  gd t20 false (fun k_2 w_6 => k_2 v_l w_6) (fun t22_1 w_7 => 
  gd t20 false (fun k_3 w_8 => k_3 v_i w_8) (fun t23_1 w_9 => 
  gd t20 false (fun k_4 w_10 => pur Try.prog (Instr.indexAt 53 t22_1 t23_1) fun t24 => k_4 t24 w_10) (fun t24_1 w_11 => 
  gd t20 false (fun k_5 w_12 => pur Try.prog (Instr.fieldAt 56 t24_1 4) fun t25 => k_5 t25 w_12) (fun t25_1 w_13 => 
  gd t20 false (fun k_6 w_14 => pur Try.prog (Instr.fieldAt 39 t25_1 7) fun t26 => k_6 t26 w_14) (fun t26_1 w_15 => 
  gd t20 false (fun k_7 w_16 => rd Try.prog (Instr.loadAt 27 t26_1) (fun t27 => k_7 t27 w_16) w_16) (fun t27_1 w_17 => 
  gd t20 false (fun k_8 w_18 => pur Try.prog (Builtin.len_ #[27] 3 #[t27_1]) fun t28 => k_8 t28 w_18) (fun t28_1 w_19 => 
  gd t20 false (fun k_9 w_20 => pur Try.prog (binS .gtr 3 false true t28_1 (.int .i64 20)) fun t29 => k_9 t29 w_20) (fun t29_1 w_21 => 
  pur Try.prog (pickS t20 (.bool true) t29_1) fun t30 => 
  condS t30
   (Q (.bool false) w_21)
   (pur Try.prog (binS .add 3 false true v_i (.int .i64 1)) fun t13 => 
  J t13 w_21)) w_19) w_17) w_15) w_13) w_11) w_9) w_7) w_5) w_5)
   (pur Try.prog (Builtin.len_ #[53] 3 #[v_l]) fun t32 => 
 pur Try.prog (binS .leq 3 false true t32 (.int .i64 100)) fun t33 => 
 Q t33 w_5)) w_3) w_1) [(.int .i64 0)] w
theorem eq24 (v_l : Value) (Q : Value → World → Prop) (w : World) : semF Try.prog 24 [v_l] Q w = S24 v_l Q w := by kernel_rfl
theorem ref24 {v_l : Value} {Q : Value → World → Prop} {w : World} (h : S24 v_l Q w) : callS Try.prog 24 #[v_l] Q w :=
  callS_of mix (fun a w => Try.call24 a w) (by kernel_rfl) (by rw [eq24]; exact h)
-- (*commons/clerk.Clerk).Use
def S25 (v_c v_l : Value) (Q : Value → World → Prop) (w : World) : Prop :=
 callS Try.prog 30 #[v_c] (fun t8 w_1 => 
 gd t8 false (fun k w_2 => k v_c w_2) (fun t10_1 w_3 => 
 gd t8 false (fun k_1 w_4 => pur Try.prog (nilV t10_1) fun t11 => k_1 t11 w_4) (fun t11_1 w_5 => 
 gd t8 false (fun k_2 w_6 => pur Try.prog (Instr.fieldAt 65 t11_1 3) fun t12 => k_2 t12 w_6) (fun t12_1 w_7 => 
 gd t8 false (fun k_3 w_8 => rd Try.prog (Instr.loadAt 63 t12_1) (fun t13 => k_3 t13 w_8) w_8) (fun t13_1 w_9 => 
 gd t8 false (fun k_4 w_10 => k_4 v_l w_10) (fun t14_1 w_11 => 
 gd t8 false (fun k_5 w_12 => callS Try.prog 39 #[t13_1, t14_1] (fun t15 w_13 => k_5 t15 w_13) w_12) (fun t15_1 w_14 => 
 gd t8 false (fun k_6 w_15 => pur Try.prog (Op.unary .not t15_1) fun t16 => k_6 t16 w_15) (fun t16_1 w_16 => 
 pur Try.prog (pickS t8 (.bool true) t16_1) fun t17 => 
 condS t17
  (Q (.bool false) w_16)
  (callS Try.prog 31 #[v_l] (fun t19 w_17 => 
 pur Try.prog (Builtin.len_ #[27] 3 #[t19]) fun t20 => 
 lp 1 (fun J => fun t21 w_18 => ∀ _j : Fr, 
  pur Try.prog (binS .lss 3 false false t21 t20) fun t22 => 
  condS t22
   (pur Try.prog (Instr.indexAt 27 t19 t21) fun t23 => 
  rd Try.prog (Instr.loadAt 25 t23) (fun t24 => 
  act Try.prog (Instr.alloc 25 true (.tuple #[])) (fun t6 w_19 => 
  act Try.prog (thenU (Instr.storeAt 25 t6 t24)) (fun _ w_20 => 
  pur Try.prog (nilV v_c) fun t26 => 
  pur Try.prog (Instr.fieldAt 65 t26 4) fun t27 => 
  rd Try.prog (Instr.loadAt 63 t27) (fun t28 => 
  rd Try.prog (Instr.loadAt 25 t6) (fun t29 => 
  callS Try.prog 50 #[t28, t29] (fun _ w_21 => 
  pur Try.prog (binS .add 3 false true t21 (.int .i64 1)) fun t31 => 
  J t31 w_21) (World.drew w_20)) (World.drew w_20)) (World.drew w_20)) w_19) w_18) w_18)
   (Q (.bool true) w_18)) [(.int .i64 0)] w_17) w_16)) w_14) w_11) w_9) w_7) w_5) w_3) w_1) w
theorem eq25 (v_c v_l : Value) (Q : Value → World → Prop) (w : World) : semF Try.prog 25 [v_c, v_l] Q w = S25 v_c v_l Q w := by kernel_rfl
theorem ref25 {v_c v_l : Value} {Q : Value → World → Prop} {w : World} (h : S25 v_c v_l Q w) : callS Try.prog 25 #[v_c, v_l] Q w :=
  callS_of mix (fun a w => Try.call25 a w) (by kernel_rfl) (by rw [eq25]; exact h)
-- (*commons/clerk.Clerk).Gen
def S26 (v_c : Value) (Q : Value → World → Prop) (w : World) : Prop :=
 rd Try.prog (binS .eql 29 false true v_c (.pointer none)) (fun t4 => 
 condS t4
  (Q (.int .i64 0) w)
  (pur Try.prog (nilV v_c) fun t6 => 
 pur Try.prog (Instr.fieldAt 65 t6 2) fun t7 => 
 rd Try.prog (Instr.loadAt 3 t7) (fun t8 => 
 Q t8 w) w)) w
theorem eq26 (v_c : Value) (Q : Value → World → Prop) (w : World) : semF Try.prog 26 [v_c] Q w = S26 v_c Q w := by kernel_rfl
theorem ref26 {v_c : Value} {Q : Value → World → Prop} {w : World} (h : S26 v_c Q w) : callS Try.prog 26 #[v_c] Q w :=
  callS_of mix (fun a w => Try.call26 a w) (by kernel_rfl) (by rw [eq26]; exact h)
-- (*commons/clerk.Clerk).Epoch
def S27 (v_c : Value) (Q : Value → World → Prop) (w : World) : Prop :=
 rd Try.prog (binS .eql 29 false true v_c (.pointer none)) (fun t4 => 
 condS t4
  (Q (.int .u64 0) w)
  (pur Try.prog (nilV v_c) fun t6 => 
 pur Try.prog (Instr.fieldAt 65 t6 1) fun t7 => 
 rd Try.prog (Instr.loadAt 32 t7) (fun t8 => 
 Q t8 w) w)) w
theorem eq27 (v_c : Value) (Q : Value → World → Prop) (w : World) : semF Try.prog 27 [v_c] Q w = S27 v_c Q w := by kernel_rfl
theorem ref27 {v_c : Value} {Q : Value → World → Prop} {w : World} (h : S27 v_c Q w) : callS Try.prog 27 #[v_c] Q w :=
  callS_of mix (fun a w => Try.call27 a w) (by kernel_rfl) (by rw [eq27]; exact h)
-- commons/commonsref14.Mode
def S28 (v_m : Value) (Q : Value → World → Prop) (w : World) : Prop :=
 pur Try.prog (binS .geq 3 false true v_m (.int .i64 0)) fun t4 => 
 gd t4 true (fun k w_1 => k v_m w_1) (fun t6_1 w_2 => 
 gd t4 true (fun k_1 w_3 => pur Try.prog (binS .leq 3 false true t6_1 (.int .i64 2)) fun t7 => k_1 t7 w_3) (fun t7_1 w_4 => 
 pur Try.prog (pickS t4 t7_1 (.bool false)) fun t8 => 
 Q t8 w_4) w_2) w
theorem eq28 (v_m : Value) (Q : Value → World → Prop) (w : World) : semF Try.prog 28 [v_m] Q w = S28 v_m Q w := by kernel_rfl
theorem ref28 {v_m : Value} {Q : Value → World → Prop} {w : World} (h : S28 v_m Q w) : callS Try.prog 28 #[v_m] Q w :=
  callS_of mix (fun a w => Try.call28 a w) (by kernel_rfl) (by rw [eq28]; exact h)
-- (*commons/clerk.Clerk).clear
def S29 (v_c : Value) (Q : Value → World → Prop) (w : World) : Prop :=
 callS Try.prog 41 #[] (fun t5 w_1 => 
 callS Try.prog 41 #[] (fun t6 w_2 => 
 callS Try.prog 41 #[] (fun t7 w_3 => 
 pur Try.prog (nilV v_c) fun t8 => 
 pur Try.prog (Instr.fieldAt 65 t8 3) fun t9 => 
 act Try.prog (thenU (Instr.storeAt 63 t9 t5)) (fun _ w_4 => 
 pur Try.prog (nilV v_c) fun t10 => 
 pur Try.prog (Instr.fieldAt 65 t10 4) fun t11 => 
 act Try.prog (thenU (Instr.storeAt 63 t11 t6)) (fun _ w_5 => 
 pur Try.prog (nilV v_c) fun t12 => 
 pur Try.prog (Instr.fieldAt 65 t12 5) fun t13 => 
 act Try.prog (thenU (Instr.storeAt 63 t13 t7)) (fun _ w_6 => 
 Q (.tuple #[]) w_6) w_5) w_4) w_3) w_2) w_1) w
theorem eq29 (v_c : Value) (Q : Value → World → Prop) (w : World) : semF Try.prog 29 [v_c] Q w = S29 v_c Q w := by kernel_rfl
theorem ref29 {v_c : Value} {Q : Value → World → Prop} {w : World} (h : S29 v_c Q w) : callS Try.prog 29 #[v_c] Q w :=
  callS_of mix (fun a w => Try.call29 a w) (by kernel_rfl) (by rw [eq29]; exact h)
-- (*commons/clerk.Clerk).none
def S30 (v_c : Value) (Q : Value → World → Prop) (w : World) : Prop :=
 rd Try.prog (binS .eql 29 false true v_c (.pointer none)) (fun t4 => 
 gd t4 false (fun k w_1 => k v_c w_1) (fun t6_1 w_2 => 
 gd t4 false (fun k_1 w_3 => pur Try.prog (nilV t6_1) fun t7 => k_1 t7 w_3) (fun t7_1 w_4 => 
 gd t4 false (fun k_2 w_5 => pur Try.prog (Instr.fieldAt 65 t7_1 3) fun t8 => k_2 t8 w_5) (fun t8_1 w_6 => 
 gd t4 false (fun k_3 w_7 => rd Try.prog (Instr.loadAt 63 t8_1) (fun t9 => k_3 t9 w_7) w_7) (fun t9_1 w_8 => 
 gd t4 false (fun k_4 w_9 => rd Try.prog (binS .eql 63 false true t9_1 (.pointer none)) (fun t10 => k_4 t10 w_9) w_9) (fun t10_1 w_10 => 
 pur Try.prog (pickS t4 (.bool true) t10_1) fun t11 => 
 Q t11 w_10) w_8) w_6) w_4) w_2) w) w
theorem eq30 (v_c : Value) (Q : Value → World → Prop) (w : World) : semF Try.prog 30 [v_c] Q w = S30 v_c Q w := by kernel_rfl
theorem ref30 {v_c : Value} {Q : Value → World → Prop} {w : World} (h : S30 v_c Q w) : callS Try.prog 30 #[v_c] Q w :=
  callS_of mix (fun a w => Try.call30 a w) (by kernel_rfl) (by rw [eq30]; exact h)
-- commons/mode.Norm
def S31 (v_l : Value) (Q : Value → World → Prop) (w : World) : Prop :=
 callS Try.prog 52 #[v_l] (fun t4 w_1 => 
 callS Try.prog 51 #[t4] (fun t5 w_2 => 
 Q t5 w_2) w_1) w
theorem eq31 (v_l : Value) (Q : Value → World → Prop) (w : World) : semF Try.prog 31 [v_l] Q w = S31 v_l Q w := by kernel_rfl
theorem ref31 {v_l : Value} {Q : Value → World → Prop} {w : World} (h : S31 v_l Q w) : callS Try.prog 31 #[v_l] Q w :=
  callS_of mix (fun a w => Try.call31 a w) (by kernel_rfl) (by rw [eq31]; exact h)
-- (*commons/clerk.Clerk).needs
def S32 (v_c : Value) (Q : Value → World → Prop) (w : World) : Prop :=
 pur Try.prog (nilV v_c) fun t4 => 
 pur Try.prog (Instr.fieldAt 65 t4 3) fun t5 => 
 rd Try.prog (Instr.loadAt 63 t5) (fun t6 => 
 pur Try.prog (nilV v_c) fun t8 => 
 pur Try.prog (Instr.fieldAt 65 t8 6) fun t9 => 
 rd Try.prog (Instr.loadAt 27 t9) (fun t10 => 
 callS Try.prog 53 #[t6, t10] (fun t11 w_1 => 
 Q t11 w_1) (World.drew w)) (World.drew w)) (World.drew w)
theorem eq32 (v_c : Value) (Q : Value → World → Prop) (w : World) : semF Try.prog 32 [v_c] Q w = S32 v_c Q w := by kernel_rfl
theorem ref32 {v_c : Value} {Q : Value → World → Prop} {w : World} (h : S32 v_c Q w) : callS Try.prog 32 #[v_c] Q w :=
  callS_of mix (fun a w => Try.call32 a w) (by kernel_rfl) (by rw [eq32]; exact h)
-- (*commons/clerk.Clerk).ask
def S33 (v_c : Value) (Q : Value → World → Prop) (w : World) : Prop :=
 callS Try.prog 32 #[v_c] (fun t5 w_1 => 
 pur Try.prog (nilV v_c) fun t7 => 
 pur Try.prog (Instr.fieldAt 65 t7 8) fun t8 => 
 rd Try.prog (Instr.loadAt 4 t8) (fun t9 => 
 gd t9 false (fun k w_2 => k t5 w_2) (fun t11_1 w_3 => 
 gd t9 false (fun k_1 w_4 => pur Try.prog (Builtin.len_ #[27] 3 #[t11_1]) fun t12 => k_1 t12 w_4) (fun t12_1 w_5 => 
 gd t9 false (fun k_2 w_6 => pur Try.prog (binS .eql 3 false true t12_1 (.int .i64 0)) fun t13 => k_2 t13 w_6) (fun t13_1 w_7 => 
 pur Try.prog (pickS t9 (.bool true) t13_1) fun t14 => 
 condS t14
  (Q (.slice none 0 0) w_7)
  (pur Try.prog (nilV v_c) fun t16 => 
 pur Try.prog (Instr.fieldAt 65 t16 7) fun t17 => 
 rd Try.prog (Instr.loadAt 3 t17) (fun t18 => 
 pur Try.prog (binS .add 3 false true t18 (.int .i64 1)) fun t19 => 
 pur Try.prog (nilV v_c) fun t20 => 
 pur Try.prog (Instr.fieldAt 65 t20 7) fun t21 => 
 act Try.prog (thenU (Instr.storeAt 3 t21 t19)) (fun _ w_8 => 
 pur Try.prog (nilV v_c) fun t24 => 
 pur Try.prog (Instr.fieldAt 65 t24 8) fun t25 => 
 act Try.prog (thenU (Instr.storeAt 4 t25 (.bool true))) (fun _ w_9 => 
 pur Try.prog (nilV v_c) fun t26 => 
 pur Try.prog (Instr.fieldAt 65 t26 9) fun t27 => 
 act Try.prog (thenU (Instr.storeAt 4 t27 (.bool false))) (fun _ w_10 => 
 pur Try.prog (nilV v_c) fun t30 => 
 pur Try.prog (Instr.fieldAt 65 t30 7) fun t31 => 
 rd Try.prog (Instr.loadAt 3 t31) (fun t32 => 
 pur Try.prog (Instr.sliceAt 27 t5 none (some (.int .i64 1)) (some (.int .i64 1))) fun t34 => 
 pur Try.prog (Instr.build 39 #[(0, (.int .i64 5)), (1, t32), (7, t34)]) fun t35 => 
 callS Try.prog 34 #[v_c, t35] (fun t36 w_11 => 
 act Try.prog (Instr.buildSlice 33 1 #[(0, t36)]) (fun t37 w_12 => 
 Q t37 w_12) w_11) (World.drew w_10)) (World.drew w_10)) w_9) w_8) w_7) w_7)) w_5) w_3) w_1) w_1) w
theorem eq33 (v_c : Value) (Q : Value → World → Prop) (w : World) : semF Try.prog 33 [v_c] Q w = S33 v_c Q w := by kernel_rfl
theorem ref33 {v_c : Value} {Q : Value → World → Prop} {w : World} (h : S33 v_c Q w) : callS Try.prog 33 #[v_c] Q w :=
  callS_of mix (fun a w => Try.call33 a w) (by kernel_rfl) (by rw [eq33]; exact h)
-- (*commons/clerk.Clerk).message
def S34 (v_c v_m : Value) (Q : Value → World → Prop) (w : World) : Prop :=
 act Try.prog (Instr.box 39 v_m) (fun t3 w_1 => 
 act Try.prog (Instr.alloc 39 true (.tuple #[])) (fun t4 w_2 => 
 jn 0 (fun J => 
  pur Try.prog (nilV v_c) fun t6 => 
  pur Try.prog (Instr.fieldAt 65 t6 1) fun t7 => 
  rd Try.prog (Instr.loadAt 32 t7) (fun t8 => 
  pur Try.prog (nilV v_c) fun t10 => 
  pur Try.prog (Instr.fieldAt 65 t10 2) fun t11 => 
  pur Try.prog (Instr.fieldAt 39 t3 5) fun t13 => 
  (rd Try.prog (Instr.loadAt 3 t11) (fun t12 => 
  act Try.prog (thenU (Instr.storeAt 32 t13 t8)) (fun _ w_3 => 
  pur Try.prog (Instr.fieldAt 39 t3 3) fun t14 => 
  act Try.prog (thenU (Instr.storeAt 3 t14 t12)) (fun _ w_4 => 
  J  w_4) w_3) (World.drew w_2)) (World.drew w_2)
  ) ∧ (act Try.prog (thenU (Instr.storeAt 32 t13 t8)) (fun _ w_5 => 
  rd Try.prog (Instr.loadAt 3 t11) (fun t12_1 => 
  pur Try.prog (Instr.fieldAt 39 t3 3) fun t14_1 => 
  act Try.prog (thenU (Instr.storeAt 3 t14_1 t12_1)) (fun _ w_6 => 
  J  w_6) w_5) w_5) (World.drew w_2))) (World.drew w_2))
 (fun  w_7 => ∀ _j : Fr, 
  rd Try.prog (Instr.loadAt 39 t3) (fun t15 => 
 act Try.prog (thenU (Instr.storeAt 39 t4 t15)) (fun _ w_8 => 
 rd Try.prog (resL 39 t4) (fun r => Q r w_8) w_8) w_7) w_7)) w_1) w
theorem eq34 (v_c v_m : Value) (Q : Value → World → Prop) (w : World) : semF Try.prog 34 [v_c, v_m] Q w = S34 v_c v_m Q w := by kernel_rfl
theorem ref34 {v_c v_m : Value} {Q : Value → World → Prop} {w : World} (h : S34 v_c v_m Q w) : callS Try.prog 34 #[v_c, v_m] Q w :=
  callS_of mix (fun a w => Try.call34 a w) (by kernel_rfl) (by rw [eq34]; exact h)
-- (*commons/clerk.Clerk).grant
def S35 (v_c v_m : Value) (Q : Value → World → Prop) (w : World) : Prop :=
 act Try.prog (Instr.box 39 v_m) (fun t3 w_1 => 
 pur Try.prog (nilV v_c) fun t11 => 
 pur Try.prog (Instr.fieldAt 65 t11 10) fun t12 => 
 rd Try.prog (Instr.loadAt 3 t12) (fun t13 => 
 pur Try.prog (binS .add 3 false true t13 (.int .i64 1)) fun t14 => 
 pur Try.prog (nilV v_c) fun t15 => 
 pur Try.prog (Instr.fieldAt 65 t15 10) fun t16 => 
 act Try.prog (thenU (Instr.storeAt 3 t16 t14)) (fun _ w_2 => 
 pur Try.prog (Instr.fieldAt 39 t3 7) fun t17 => 
 rd Try.prog (Instr.loadAt 27 t17) (fun t18 => 
 callS Try.prog 31 #[t18] (fun t19 w_3 => 
 pur Try.prog (Builtin.len_ #[27] 3 #[t19]) fun t21 => 
 lp 1 (fun J => fun t22 w_4 => ∀ _j : Fr, 
  pur Try.prog (binS .lss 3 false false t22 t21) fun t23 => 
  condS t23
   (pur Try.prog (Instr.indexAt 27 t19 t22) fun t24 => 
  rd Try.prog (Instr.loadAt 25 t24) (fun t25 => 
  act Try.prog (Instr.alloc 25 true (.tuple #[])) (fun t7 w_5 => 
  act Try.prog (thenU (Instr.storeAt 25 t7 t25)) (fun _ w_6 => 
  pur Try.prog (nilV v_c) fun t27 => 
  pur Try.prog (Instr.fieldAt 65 t27 3) fun t28 => 
  rd Try.prog (Instr.loadAt 63 t28) (fun t29 => 
  rd Try.prog (Instr.loadAt 25 t7) (fun t30 => 
  callS Try.prog 50 #[t29, t30] (fun _ w_7 => 
  pur Try.prog (binS .add 3 false true t22 (.int .i64 1)) fun t32 => 
  J t32 w_7) (World.drew w_6)) (World.drew w_6)) (World.drew w_6)) w_5) w_4) w_4)
   (pur Try.prog (nilV v_c) fun t34 => 
 pur Try.prog (Instr.fieldAt 65 t34 8) fun t35 => 
 rd Try.prog (Instr.loadAt 4 t35) (fun t36 => 
 pur Try.prog (Op.unary .not t36) fun t37 => 
 gd t37 false (fun k w_8 => pur Try.prog (Instr.fieldAt 39 t3 1) fun t39 => k t39 w_8) (fun t39_1 w_9 => 
 gd t37 false (fun k_1 w_10 => rd Try.prog (Instr.loadAt 3 t39_1) (fun t40 => k_1 t40 w_10) w_10) (fun t40_1 w_11 => 
 gd t37 false (fun k_2 w_12 => k_2 v_c w_12) (fun t41_1 w_13 => 
 gd t37 false (fun k_3 w_14 => pur Try.prog (nilV t41_1) fun t42 => k_3 t42 w_14) (fun t42_1 w_15 => 
 gd t37 false (fun k_4 w_16 => pur Try.prog (Instr.fieldAt 65 t42_1 7) fun t43 => k_4 t43 w_16) (fun t43_1 w_17 => 
 gd t37 false (fun k_5 w_18 => rd Try.prog (Instr.loadAt 3 t43_1) (fun t44 => k_5 t44 w_18) w_18) (fun t44_1 w_19 => 
 gd t37 false (fun k_6 w_20 => pur Try.prog (binS .neq 3 false false t40_1 t44_1) fun t45 => k_6 t45 w_20) (fun t45_1 w_21 => 
 pur Try.prog (pickS t37 (.bool true) t45_1) fun t46 => 
 condS t46
  (pur Try.prog (Builtin.len_ #[27] 3 #[t19]) fun t48 => 
  lp 1 (fun J_1 => fun t49 w_22 => ∀ _j : Fr, 
   pur Try.prog (binS .lss 3 false false t49 t48) fun t50 => 
   condS t50
    (pur Try.prog (Instr.indexAt 27 t19 t49) fun t51 => 
   rd Try.prog (Instr.loadAt 25 t51) (fun t52 => 
   act Try.prog (Instr.alloc 25 true (.tuple #[])) (fun t9 w_23 => 
   act Try.prog (thenU (Instr.storeAt 25 t9 t52)) (fun _ w_24 => 
   pur Try.prog (nilV v_c) fun t54 => 
   pur Try.prog (Instr.fieldAt 65 t54 5) fun t55 => 
   rd Try.prog (Instr.loadAt 63 t55) (fun t56 => 
   pur Try.prog (Instr.fieldAt 25 t9 0) fun t57 => 
   rd Try.prog (Instr.loadAt 23 t57) (fun t58 => 
   callS Try.prog 44 #[t56, t58, (.int .i64 0)] (fun _ w_25 => 
   pur Try.prog (binS .add 3 false true t49 (.int .i64 1)) fun t60 => 
   J_1 t60 w_25) (World.drew w_24)) (World.drew w_24)) (World.drew w_24)) w_23) w_22) w_22)
    (Q (.slice none 0 0) w_22)) [(.int .i64 0)] w_21)
  (pur Try.prog (nilV v_c) fun t62 => 
 pur Try.prog (Instr.fieldAt 65 t62 8) fun t63 => 
 act Try.prog (thenU (Instr.storeAt 4 t63 (.bool false))) (fun _ w_26 => 
 callS Try.prog 33 #[v_c] (fun t65 w_27 => 
 Q t65 w_27) w_26) w_21)) w_19) w_17) w_15) w_13) w_11) w_9) (World.drew w_4)) (World.drew w_4))) [(.int .i64 0)] w_3) w_2) w_2) w_1) w_1) w
theorem eq35 (v_c v_m : Value) (Q : Value → World → Prop) (w : World) : semF Try.prog 35 [v_c, v_m] Q w = S35 v_c v_m Q w := by kernel_rfl
theorem ref35 {v_c v_m : Value} {Q : Value → World → Prop} {w : World} (h : S35 v_c v_m Q w) : callS Try.prog 35 #[v_c, v_m] Q w :=
  callS_of mix (fun a w => Try.call35 a w) (by kernel_rfl) (by rw [eq35]; exact h)
-- (*commons/clerk.Clerk).deny
def S36 (v_c v_m : Value) (Q : Value → World → Prop) (w : World) : Prop :=
 act Try.prog (Instr.box 39 v_m) (fun t3 w_1 => 
 pur Try.prog (nilV v_c) fun t6 => 
 pur Try.prog (Instr.fieldAt 65 t6 8) fun t7 => 
 act Try.prog (thenU (Instr.storeAt 4 t7 (.bool false))) (fun _ w_2 => 
 pur Try.prog (nilV v_c) fun t9 => 
 pur Try.prog (Instr.fieldAt 65 t9 9) fun t10 => 
 rd Try.prog (Instr.loadAt 4 t10) (fun t11 => 
 condS t11
  (callS Try.prog 33 #[v_c] (fun t13 w_3 => 
  Q t13 w_3) w_2)
  (jn 0 (fun J => 
  pur Try.prog (Instr.fieldAt 39 t3 6) fun t16 => 
  pur Try.prog (nilV v_c) fun t18 => 
  pur Try.prog (Instr.fieldAt 65 t18 6) fun t19 => 
  (rd Try.prog (Instr.loadAt 37 t16) (fun t17 => 
  act Try.prog (thenU (Instr.storeAt 27 t19 (.slice none 0 0))) (fun _ w_4 => 
  pur Try.prog (nilV v_c) fun t20 => 
  pur Try.prog (Instr.fieldAt 65 t20 11) fun t21 => 
  act Try.prog (thenU (Instr.storeAt 37 t21 t17)) (fun _ w_5 => 
  J  w_5) w_4) (World.drew w_2)) (World.drew w_2)
  ) ∧ (act Try.prog (thenU (Instr.storeAt 27 t19 (.slice none 0 0))) (fun _ w_6 => 
  rd Try.prog (Instr.loadAt 37 t16) (fun t17_1 => 
  pur Try.prog (nilV v_c) fun t20_1 => 
  pur Try.prog (Instr.fieldAt 65 t20_1 11) fun t21_1 => 
  act Try.prog (thenU (Instr.storeAt 37 t21_1 t17_1)) (fun _ w_7 => 
  J  w_7) w_6) w_6) (World.drew w_2)))
 (fun  w_8 => ∀ _j : Fr, 
  Q (.slice none 0 0) w_8))) w_2) w_1) w
theorem eq36 (v_c v_m : Value) (Q : Value → World → Prop) (w : World) : semF Try.prog 36 [v_c, v_m] Q w = S36 v_c v_m Q w := by kernel_rfl
theorem ref36 {v_c v_m : Value} {Q : Value → World → Prop} {w : World} (h : S36 v_c v_m Q w) : callS Try.prog 36 #[v_c, v_m] Q w :=
  callS_of mix (fun a w => Try.call36 a w) (by kernel_rfl) (by rw [eq36]; exact h)
-- (*commons/clerk.Clerk).revoke
def S37 (v_c v_m : Value) (Q : Value → World → Prop) (w : World) : Prop :=
 act Try.prog (Instr.box 39 v_m) (fun t3 w_1 => 
 callS Try.prog 41 #[] (fun t14 w_2 => 
 pur Try.prog (Instr.fieldAt 39 t3 7) fun t15 => 
 rd Try.prog (Instr.loadAt 27 t15) (fun t16 => 
 pur Try.prog (Builtin.len_ #[27] 3 #[t16]) fun t17 => 
 lp 1 (fun J => fun t18 w_3 => ∀ _j : Fr, 
  pur Try.prog (binS .lss 3 false false t18 t17) fun t19 => 
  condS t19
   (pur Try.prog (Instr.indexAt 27 t16 t18) fun t20 => 
  rd Try.prog (Instr.loadAt 25 t20) (fun t21 => 
  act Try.prog (Instr.alloc 25 true (.tuple #[])) (fun t7 w_4 => 
  act Try.prog (thenU (Instr.storeAt 25 t7 t21)) (fun _ w_5 => 
  pur Try.prog (Instr.fieldAt 25 t7 0) fun t23 => 
  rd Try.prog (Instr.loadAt 23 t23) (fun t24 => 
  callS Try.prog 45 #[t14, t24] (fun t25 w_6 => 
  pur Try.prog (Instr.fieldAt 25 t7 0) fun t27 => 
  rd Try.prog (Instr.loadAt 23 t27) (fun t28 => 
  pur Try.prog (Instr.fieldAt 25 t7 1) fun t29 => 
  rd Try.prog (Instr.loadAt 3 t29) (fun t30 => 
  callS Try.prog 44 #[t14, t28, t30] (fun _ w_7 => 
  pur Try.prog (Builtin.len_ #[72] 3 #[t25]) fun t33 => 
  lp 1 (fun J_1 => fun t34 w_8 => ∀ _j : Fr, 
   pur Try.prog (binS .lss 3 false false t34 t33) fun t35 => 
   condS t35
    (pur Try.prog (Instr.indexAt 72 t25 t34) fun t36 => 
   rd Try.prog (Instr.loadAt 75 t36) (fun t37 => 
   act Try.prog (Instr.alloc 75 true (.tuple #[])) (fun t10 w_9 => 
   act Try.prog (thenU (Instr.storeAt 75 t10 t37)) (fun _ w_10 => 
   pur Try.prog (Instr.fieldAt 75 t10 0) fun t39 => 
   rd Try.prog (Instr.loadAt 23 t39) (fun t40 => 
   pur Try.prog (Instr.fieldAt 75 t10 1) fun t41 => 
   rd Try.prog (Instr.loadAt 3 t41) (fun t42 => 
   pur Try.prog (Instr.fieldAt 25 t7 1) fun t43 => 
   rd Try.prog (Instr.loadAt 3 t43) (fun t44 => 
   pur Try.prog (Builtin.min_ #[3, 3] 3 #[t42, t44]) fun t45 => 
   callS Try.prog 44 #[t14, t40, t45] (fun _ w_11 => 
   pur Try.prog (binS .add 3 false true t34 (.int .i64 1)) fun t47 => 
   J_1 t47 w_11) w_10) w_10) w_10) w_10) w_9) w_8) w_8)
    (pur Try.prog (binS .add 3 false true t18 (.int .i64 1)) fun t48 => 
  J t48 w_8)) [(.int .i64 0)] w_7) w_6) w_6) w_6) w_5) w_5) w_4) w_3) w_3)
   (callS Try.prog 46 #[t14] (fun t50 w_12 => 
 pur Try.prog (Builtin.len_ #[27] 3 #[t50]) fun t51 => 
 lp 1 (fun J_2 => fun t52 w_13 => ∀ _j : Fr, 
  pur Try.prog (binS .lss 3 false false t52 t51) fun t53 => 
  condS t53
   (pur Try.prog (Instr.indexAt 27 t50 t52) fun t54 => 
  rd Try.prog (Instr.loadAt 25 t54) (fun t55 => 
  act Try.prog (Instr.alloc 25 true (.tuple #[])) (fun t12 w_14 => 
  act Try.prog (thenU (Instr.storeAt 25 t12 t55)) (fun _ w_15 => 
  rd Try.prog (Instr.loadAt 25 t12) (fun t57 => 
  callS Try.prog 54 #[v_c, t57, t14] (fun _ w_16 => 
  pur Try.prog (binS .add 3 false true t52 (.int .i64 1)) fun t60 => 
  J_2 t60 w_16) w_15) w_15) w_14) w_13) w_13)
   (callS Try.prog 46 #[t14] (fun t62 w_17 => 
 pur Try.prog (Builtin.len_ #[27] 3 #[t62]) fun t64 => 
 pur Try.prog (binS .eql 3 false true t64 (.int .i64 0)) fun t65 => 
 condS t65
  (Q (.slice none 0 0) w_17)
  (pur Try.prog (nilV v_c) fun t68 => 
 pur Try.prog (Instr.fieldAt 65 t68 10) fun t69 => 
 rd Try.prog (Instr.loadAt 3 t69) (fun t70 => 
 pur Try.prog (Builtin.len_ #[27] 3 #[t62]) fun t73 => 
 pur Try.prog (Builtin.min_ #[3, 3] 3 #[t73, (.int .i64 200)]) fun t74 => 
 pur Try.prog (Instr.sliceAt 27 t62 none (some t74) none) fun t75 => 
 pur Try.prog (Instr.build 39 #[(0, (.int .i64 9)), (4, t70), (7, t75)]) fun t76 => 
 callS Try.prog 34 #[v_c, t76] (fun t77 w_18 => 
 act Try.prog (Instr.buildSlice 33 1 #[(0, t77)]) (fun t78 w_19 => 
 Q t78 w_19) w_18) (World.drew w_17)) (World.drew w_17))) w_13)) [(.int .i64 0)] w_12) w_3)) [(.int .i64 0)] w_2) w_2) w_1) w
theorem eq37 (v_c v_m : Value) (Q : Value → World → Prop) (w : World) : semF Try.prog 37 [v_c, v_m] Q w = S37 v_c v_m Q w := by kernel_rfl
theorem ref37 {v_c v_m : Value} {Q : Value → World → Prop} {w : World} (h : S37 v_c v_m Q w) : callS Try.prog 37 #[v_c, v_m] Q w :=
  callS_of mix (fun a w => Try.call37 a w) (by kernel_rfl) (by rw [eq37]; exact h)
-- (*commons/clerk.Clerk).report
def S38 (v_c v_m : Value) (Q : Value → World → Prop) (w : World) : Prop :=
 act Try.prog (Instr.box 39 v_m) (fun t3 w_1 => 
 jn 0 (fun J => 
  pur Try.prog (Instr.fieldAt 39 t3 3) fun t10 => 
  (rd Try.prog (Instr.loadAt 3 t10) (fun t11 => 
  callS Try.prog 41 #[] (fun t12 w_2 => 
  pur Try.prog (nilV v_c) fun t13 => 
  pur Try.prog (Instr.fieldAt 65 t13 2) fun t14 => 
  act Try.prog (thenU (Instr.storeAt 3 t14 t11)) (fun _ w_3 => 
  pur Try.prog (nilV v_c) fun t15 => 
  pur Try.prog (Instr.fieldAt 65 t15 10) fun t16 => 
  act Try.prog (thenU (Instr.storeAt 3 t16 (.int .i64 0))) (fun _ w_4 => 
  pur Try.prog (nilV v_c) fun t17 => 
  pur Try.prog (Instr.fieldAt 65 t17 8) fun t18 => 
  act Try.prog (thenU (Instr.storeAt 4 t18 (.bool false))) (fun _ w_5 => 
  pur Try.prog (nilV v_c) fun t19 => 
  pur Try.prog (Instr.fieldAt 65 t19 5) fun t20 => 
  act Try.prog (thenU (Instr.storeAt 63 t20 t12)) (fun _ w_6 => 
  J  w_6) w_5) w_4) w_3) w_2) (World.drew w_1)) (World.drew w_1)
  ) ∧ (callS Try.prog 41 #[] (fun t12_1 w_7 => 
  rd Try.prog (Instr.loadAt 3 t10) (fun t11_1 => 
  pur Try.prog (nilV v_c) fun t13_1 => 
  pur Try.prog (Instr.fieldAt 65 t13_1 2) fun t14_1 => 
  act Try.prog (thenU (Instr.storeAt 3 t14_1 t11_1)) (fun _ w_8 => 
  pur Try.prog (nilV v_c) fun t15_1 => 
  pur Try.prog (Instr.fieldAt 65 t15_1 10) fun t16_1 => 
  act Try.prog (thenU (Instr.storeAt 3 t16_1 (.int .i64 0))) (fun _ w_9 => 
  pur Try.prog (nilV v_c) fun t17_1 => 
  pur Try.prog (Instr.fieldAt 65 t17_1 8) fun t18_1 => 
  act Try.prog (thenU (Instr.storeAt 4 t18_1 (.bool false))) (fun _ w_10 => 
  pur Try.prog (nilV v_c) fun t19_1 => 
  pur Try.prog (Instr.fieldAt 65 t19_1 5) fun t20_1 => 
  act Try.prog (thenU (Instr.storeAt 63 t20_1 t12_1)) (fun _ w_11 => 
  J  w_11) w_10) w_9) w_8) w_7) w_7) (World.drew w_1)))
 (fun  w_12 => ∀ _j : Fr, 
  callS Try.prog 20 #[v_c] (fun t23 w_13 => 
 pur Try.prog (Instr.build 39 #[(0, (.int .i64 11)), (7, t23)]) fun t24 => 
 callS Try.prog 34 #[v_c, t24] (fun t25 w_14 => 
 act Try.prog (Instr.buildSlice 33 1 #[(0, t25)]) (fun t26 w_15 => 
 callS Try.prog 33 #[v_c] (fun t29 w_16 => 
 act Try.prog (Builtin.append_ #[33, 33] 33 #[t26, t29]) (fun t30 w_17 => 
 Q t30 w_17) w_16) w_15) w_14) w_13) w_12)) w
theorem eq38 (v_c v_m : Value) (Q : Value → World → Prop) (w : World) : semF Try.prog 38 [v_c, v_m] Q w = S38 v_c v_m Q w := by kernel_rfl
theorem ref38 {v_c v_m : Value} {Q : Value → World → Prop} {w : World} (h : S38 v_c v_m Q w) : callS Try.prog 38 #[v_c, v_m] Q w :=
  callS_of mix (fun a w => Try.call38 a w) (by kernel_rfl) (by rw [eq38]; exact h)
-- commons/mode.Has
def S39 (v_held v_l : Value) (Q : Value → World → Prop) (w : World) : Prop :=
 callS Try.prog 53 #[v_held, v_l] (fun t7 w_1 => 
 pur Try.prog (Builtin.len_ #[27] 3 #[t7]) fun t8 => 
 pur Try.prog (binS .eql 3 false true t8 (.int .i64 0)) fun t9 => 
 Q t9 w_1) w
theorem eq39 (v_held v_l : Value) (Q : Value → World → Prop) (w : World) : semF Try.prog 39 [v_held, v_l] Q w = S39 v_held v_l Q w := by kernel_rfl
theorem ref39 {v_held v_l : Value} {Q : Value → World → Prop} {w : World} (h : S39 v_held v_l Q w) : callS Try.prog 39 #[v_held, v_l] Q w :=
  callS_of mix (fun a w => Try.call39 a w) (by kernel_rfl) (by rw [eq39]; exact h)
-- (commons/commonsref1.Map).Set
def S40 (v_m v_s v_v : Value) (Q : Value → World → Prop) (w : World) : Prop :=
 act Try.prog (Instr.box 23 v_s) (fun t4 w_1 => 
 rd Try.prog (Instr.loadAt 23 t4) (fun t12 => 
 callS Try.prog 55 #[t12] (fun t13 w_2 => 
 pur Try.prog (Op.unary .not t13) fun t14 => 
 condS t14
  (Q v_m w_2)
  (rd Try.prog (Instr.loadAt 23 t4) (fun t17 => 
 callS Try.prog 56 #[v_m, t17] (fun t18 w_3 => 
 lp 1 (fun J => fun v_k w_4 => ∀ _j : Fr, 
  pur Try.prog (Builtin.len_ #[44] 3 #[t18]) fun t21 => 
  pur Try.prog (binS .lss 3 false false v_k t21) fun t22 => 
  gd t22 true (fun k w_5 => k t18 w_5) (fun t24_1 w_6 => 
  gd t22 true (fun k_1 w_7 => k_1 v_k w_7) (fun t25_1 w_8 => 
  gd t22 true (fun k_2 w_9 => pur Try.prog (Instr.indexAt 44 t24_1 t25_1) fun t26 => k_2 t26 w_9) (fun t26_1 w_10 => 
  gd t22 true (fun k_3 w_11 => pur Try.prog (Instr.fieldAt 82 t26_1 0) fun t27 => k_3 t27 w_11) (fun t27_1 w_12 => 
  gd t22 true (fun k_4 w_13 => pur Try.prog (Instr.fieldAt 23 t27_1 0) fun t28 => k_4 t28 w_13) (fun t28_1 w_14 => 
  gd t22 true (fun k_5 w_15 => rd Try.prog (Instr.loadAt 3 t28_1) (fun t29 => k_5 t29 w_15) w_15) (fun t29_1 w_16 => 
  gd t22 true (fun k_6 w_17 => pur Try.prog (Instr.fieldAt 23 t4 0) fun t30 => k_6 t30 w_17) (fun t30_1 w_18 => 
  gd t22 true (fun k_7 w_19 => rd Try.prog (Instr.loadAt 3 t30_1) (fun t31 => k_7 t31 w_19) w_19) (fun t31_1 w_20 => 
  gd t22 true (fun k_8 w_21 => pur Try.prog (binS .lss 3 false false t29_1 t31_1) fun t32 => k_8 t32 w_21) (fun t32_1 w_22 => 
  pur Try.prog (pickS t22 t32_1 (.bool false)) fun t33 => 
  condS t33
   (pur Try.prog (binS .add 3 false true v_k (.int .i64 1)) fun t35 => 
  J t35 w_22)
   (jn 1 (fun J_1 => 
  pur Try.prog (Instr.sliceAt 44 t18 none (some v_k) none) fun t38 => 
  pur Try.prog (Instr.sliceAt 44 t18 (some v_k) none none) fun t47 => 
  (act Try.prog (Builtin.append_ #[44, 44] 44 #[(.slice none 0 0), t38]) (fun t39 w_23 => 
  rd Try.prog (Instr.loadAt 23 t4) (fun t40 => 
  pur Try.prog (Instr.build 82 #[(0, t40), (1, v_v)]) fun t42 => 
  act Try.prog (Instr.buildSlice 44 1 #[(0, t42)]) (fun t43 w_24 => 
  act Try.prog (Builtin.append_ #[44, 44] 44 #[t39, t43]) (fun t44 w_25 => 
  act Try.prog (Builtin.append_ #[44, 44] 44 #[t44, t47]) (fun t48 w_26 => 
  J_1 t48 w_26) w_25) w_24) w_23) w_23) (World.drew w_22)
  ) ∧ (rd Try.prog (Instr.loadAt 23 t4) (fun t40_1 => 
  pur Try.prog (Instr.build 82 #[(0, t40_1), (1, v_v)]) fun t42_1 => 
  (act Try.prog (Builtin.append_ #[44, 44] 44 #[(.slice none 0 0), t38]) (fun t39_1 w_27 => 
  act Try.prog (Instr.buildSlice 44 1 #[(0, t42_1)]) (fun t43_1 w_28 => 
  act Try.prog (Builtin.append_ #[44, 44] 44 #[t39_1, t43_1]) (fun t44_1 w_29 => 
  act Try.prog (Builtin.append_ #[44, 44] 44 #[t44_1, t47]) (fun t48_1 w_30 => 
  J_1 t48_1 w_30) w_29) w_28) w_27) (World.drew w_22)
  ) ∧ (act Try.prog (Instr.buildSlice 44 1 #[(0, t42_1)]) (fun t43_2 w_31 => 
  act Try.prog (Builtin.append_ #[44, 44] 44 #[(.slice none 0 0), t38]) (fun t39_2 w_32 => 
  act Try.prog (Builtin.append_ #[44, 44] 44 #[t39_2, t43_2]) (fun t44_2 w_33 => 
  act Try.prog (Builtin.append_ #[44, 44] 44 #[t44_2, t47]) (fun t48_2 w_34 => 
  J_1 t48_2 w_34) w_33) w_32) w_31) (World.drew w_22))) (World.drew w_22)))
 (fun v_l w_35 => ∀ _j : Fr, 
  lp 2 (fun J_2 => fun v_out v_i w_36 => ∀ _j : Fr, 
  pur Try.prog (Builtin.len_ #[44] 3 #[v_l]) fun t51 => 
  pur Try.prog (binS .lss 3 false false v_i t51) fun t52 => 
  condS t52
   (jn 1 (fun J_3 => 
   pur Try.prog (Builtin.len_ #[44] 3 #[v_out]) fun t56 => 
   pur Try.prog (binS .gtr 3 false true t56 (.int .i64 0)) fun t58 => 
   gd t58 true (fun k_9 w_37 => k_9 v_out w_37) (fun t60_1 w_38 => 
   gd t58 true (fun k_10 w_39 => k_10 t56 w_39) (fun t61_1 w_40 => 
   gd t58 true (fun k_11 w_41 => pur Try.prog (binS .sub 3 false true t61_1 (.int .i64 1)) fun t62 => k_11 t62 w_41) (fun t62_1 w_42 => 
   gd t58 true (fun k_12 w_43 => pur Try.prog (Instr.indexAt 44 t60_1 t62_1) fun t63 => k_12 t63 w_43) (fun t63_1 w_44 => 
   gd t58 true (fun k_13 w_45 => pur Try.prog (Instr.fieldAt 82 t63_1 0) fun t64 => k_13 t64 w_45) (fun t64_1 w_46 => 
   gd t58 true (fun k_14 w_47 => pur Try.prog (Instr.fieldAt 23 t64_1 1) fun t65 => k_14 t65 w_47) (fun t65_1 w_48 => 
   gd t58 true (fun k_15 w_49 => rd Try.prog (Instr.loadAt 3 t65_1) (fun t66 => k_15 t66 w_49) w_49) (fun t66_1 w_50 => 
   gd t58 true (fun k_16 w_51 => k_16 v_l w_51) (fun t67_1 w_52 => 
   gd t58 true (fun k_17 w_53 => k_17 v_i w_53) (fun t68_1 w_54 => 
   gd t58 true (fun k_18 w_55 => pur Try.prog (Instr.indexAt 44 t67_1 t68_1) fun t69 => k_18 t69 w_55) (fun t69_1 w_56 => 
   gd t58 true (fun k_19 w_57 => pur Try.prog (Instr.fieldAt 82 t69_1 0) fun t70 => k_19 t70 w_57) (fun t70_1 w_58 => 
   gd t58 true (fun k_20 w_59 => pur Try.prog (Instr.fieldAt 23 t70_1 0) fun t71 => k_20 t71 w_59) (fun t71_1 w_60 => 
   gd t58 true (fun k_21 w_61 => rd Try.prog (Instr.loadAt 3 t71_1) (fun t72 => k_21 t72 w_61) w_61) (fun t72_1 w_62 => 
   gd t58 true (fun k_22 w_63 => pur Try.prog (binS .eql 3 false false t66_1 t72_1) fun t73 => k_22 t73 w_63) (fun t73_1 w_64 => 
   pur Try.prog (pickS t58 t73_1 (.bool false)) fun t74 => 
   gd t74 true (fun k_23 w_65 => k_23 v_out w_65) (fun t76_1 w_66 => 
   gd t74 true (fun k_24 w_67 => k_24 t56 w_67) (fun t77_1 w_68 => 
   gd t74 true (fun k_25 w_69 => pur Try.prog (binS .sub 3 false true t77_1 (.int .i64 1)) fun t78 => k_25 t78 w_69) (fun t78_1 w_70 => 
   gd t74 true (fun k_26 w_71 => pur Try.prog (Instr.indexAt 44 t76_1 t78_1) fun t79 => k_26 t79 w_71) (fun t79_1 w_72 => 
   gd t74 true (fun k_27 w_73 => pur Try.prog (Instr.fieldAt 82 t79_1 1) fun t80 => k_27 t80 w_73) (fun t80_1 w_74 => 
   gd t74 true (fun k_28 w_75 => rd Try.prog (Instr.loadAt 3 t80_1) (fun t81 => k_28 t81 w_75) w_75) (fun t81_1 w_76 => 
   gd t74 true (fun k_29 w_77 => k_29 v_l w_77) (fun t82_1 w_78 => 
   gd t74 true (fun k_30 w_79 => k_30 v_i w_79) (fun t83_1 w_80 => 
   gd t74 true (fun k_31 w_81 => pur Try.prog (Instr.indexAt 44 t82_1 t83_1) fun t84 => k_31 t84 w_81) (fun t84_1 w_82 => 
   gd t74 true (fun k_32 w_83 => pur Try.prog (Instr.fieldAt 82 t84_1 1) fun t85 => k_32 t85 w_83) (fun t85_1 w_84 => 
   gd t74 true (fun k_33 w_85 => rd Try.prog (Instr.loadAt 3 t85_1) (fun t86 => k_33 t86 w_85) w_85) (fun t86_1 w_86 => 
   gd t74 true (fun k_34 w_87 => pur Try.prog (binS .eql 3 false false t81_1 t86_1) fun t87 => k_34 t87 w_87) (fun t87_1 w_88 => 
   pur Try.prog (pickS t74 t87_1 (.bool false)) fun t88 => 
   condS t88
    (pur Try.prog (binS .sub 3 false true t56 (.int .i64 1)) fun t91 => 
    pur Try.prog (Instr.indexAt 44 v_l v_i) fun t94 => 
    pur Try.prog (Instr.fieldAt 82 t94 0) fun t95 => 
    pur Try.prog (Instr.fieldAt 23 t95 1) fun t96 => 
    rd Try.prog (Instr.loadAt 3 t96) (fun t97 => 
    pur Try.prog (Instr.indexAt 44 v_out t91) fun t98 => 
    pur Try.prog (Instr.fieldAt 82 t98 0) fun t99 => 
    pur Try.prog (Instr.fieldAt 23 t99 1) fun t100 => 
    act Try.prog (thenU (Instr.storeAt 3 t100 t97)) (fun _ w_89 => 
    J_3 v_out w_89) w_88) w_88)
    (pur Try.prog (Instr.indexAt 44 v_l v_i) fun t104 => 
    rd Try.prog (Instr.loadAt 82 t104) (fun t105 => 
    act Try.prog (Instr.buildSlice 44 1 #[(0, t105)]) (fun t106 w_90 => 
    act Try.prog (Builtin.append_ #[44, 44] 44 #[v_out, t106]) (fun t107 w_91 => 
    J_3 t107 w_91) w_90) w_88) w_88)) w_86) w_84) w_82) w_80) w_78) w_76) w_74) w_72) w_70) w_68) w_66) w_64) w_62) w_60) w_58) w_56) w_54) w_52) w_50) w_48) w_46) w_44) w_42) w_40) w_38) (World.drew w_36))
  (fun v_out_1 w_92 => ∀ _j : Fr, 
   pur Try.prog (binS .add 3 false true v_i (.int .i64 1)) fun t54 => 
   J_2 v_out_1 t54 w_92))
   (Q v_out w_36)) [(.slice none 0 0), (.int .i64 0)] w_35))) w_20) w_18) w_16) w_14) w_12) w_10) w_8) w_6) (World.drew w_4)) [(.int .i64 0)] w_3) w_2) w_2)) w_1) w_1) w
theorem eq40 (v_m v_s v_v : Value) (Q : Value → World → Prop) (w : World) : semF Try.prog 40 [v_m, v_s, v_v] Q w = S40 v_m v_s v_v Q w := by kernel_rfl
theorem ref40 {v_m v_s v_v : Value} {Q : Value → World → Prop} {w : World} (h : S40 v_m v_s v_v Q w) : callS Try.prog 40 #[v_m, v_s, v_v] Q w :=
  callS_of mix (fun a w => Try.call40 a w) (by kernel_rfl) (by rw [eq40]; exact h)
-- commons/imap.New[int]
def S41 (Q : Value → World → Prop) (w : World) : Prop :=
 pur Try.prog (Instr.build 89 #[]) fun t1 => 
 act Try.prog (Instr.box 89 t1) (fun t2 w_1 => 
 Q t2 w_1) w
theorem eq41 (Q : Value → World → Prop) (w : World) : semF Try.prog 41 [] Q w = S41 Q w := by kernel_rfl
theorem ref41 {Q : Value → World → Prop} {w : World} (h : S41 Q w) : callS Try.prog 41 #[] Q w :=
  callS_of mix (fun a w => Try.call41 a w) (by kernel_rfl) (by rw [eq41]; exact h)
-- (*commons/clerk.Clerk).using
def S42 (v_c : Value) (Q : Value → World → Prop) (w : World) : Prop :=
 callS Try.prog 41 #[] (fun t10 w_1 => 
 pur Try.prog (nilV v_c) fun t12 => 
 pur Try.prog (Instr.fieldAt 65 t12 4) fun t13 => 
 rd Try.prog (Instr.loadAt 63 t13) (fun t14 => 
 callS Try.prog 46 #[t14] (fun t15 w_2 => 
 pur Try.prog (Builtin.len_ #[27] 3 #[t15]) fun t16 => 
 lp 1 (fun J => fun t17 w_3 => ∀ _j : Fr, 
  pur Try.prog (binS .lss 3 false false t17 t16) fun t18 => 
  condS t18
   (pur Try.prog (Instr.indexAt 27 t15 t17) fun t19 => 
  rd Try.prog (Instr.loadAt 25 t19) (fun t20 => 
  act Try.prog (Instr.alloc 25 true (.tuple #[])) (fun t5 w_4 => 
  act Try.prog (thenU (Instr.storeAt 25 t5 t20)) (fun _ w_5 => 
  rd Try.prog (Instr.loadAt 25 t5) (fun t22 => 
  callS Try.prog 50 #[t10, t22] (fun _ w_6 => 
  pur Try.prog (binS .add 3 false true t17 (.int .i64 1)) fun t24 => 
  J t24 w_6) w_5) w_5) w_4) w_3) w_3)
   (jn 1 (fun J_1 => 
  callS Try.prog 32 #[v_c] (fun t26 w_7 => 
  pur Try.prog (Builtin.len_ #[27] 3 #[t26]) fun t28 => 
  pur Try.prog (binS .gtr 3 false true t28 (.int .i64 0)) fun t29 => 
  condS t29
   (pur Try.prog (Instr.indexAt 27 t26 (.int .i64 0)) fun t31 => 
   pur Try.prog (Instr.fieldAt 25 t31 0) fun t32 => 
   pur Try.prog (Instr.fieldAt 23 t32 0) fun t33 => 
   rd Try.prog (Instr.loadAt 3 t33) (fun t34 => 
   J_1 t34 w_7) w_7)
   (J_1 (.int .i64 4096) w_7)) w_3)
 (fun v_end w_8 => ∀ _j : Fr, 
  pur Try.prog (nilV v_c) fun t36 => 
  pur Try.prog (Instr.fieldAt 65 t36 6) fun t37 => 
  rd Try.prog (Instr.loadAt 27 t37) (fun t38 => 
  pur Try.prog (Builtin.len_ #[27] 3 #[t38]) fun t39 => 
  lp 1 (fun J_2 => fun t40 w_9 => ∀ _j : Fr, 
   pur Try.prog (binS .lss 3 false false t40 t39) fun t41 => 
   condS t41
    (jn 0 (fun J_3 => 
    pur Try.prog (Instr.indexAt 27 t38 t40) fun t42 => 
    rd Try.prog (Instr.loadAt 25 t42) (fun t43 => 
    act Try.prog (Instr.alloc 25 true (.tuple #[])) (fun t9 w_10 => 
    act Try.prog (thenU (Instr.storeAt 25 t9 t43)) (fun _ w_11 => 
    pur Try.prog (Instr.fieldAt 25 t9 0) fun t44 => 
    pur Try.prog (Instr.fieldAt 23 t44 1) fun t45 => 
    rd Try.prog (Instr.loadAt 3 t45) (fun t46 => 
    pur Try.prog (Builtin.min_ #[3, 3] 3 #[t46, v_end]) fun t48 => 
    pur Try.prog (Instr.fieldAt 25 t9 0) fun t49 => 
    pur Try.prog (Instr.fieldAt 23 t49 1) fun t50 => 
    act Try.prog (thenU (Instr.storeAt 3 t50 t48)) (fun _ w_12 => 
    pur Try.prog (Instr.fieldAt 25 t9 0) fun t51 => 
    rd Try.prog (Instr.loadAt 23 t51) (fun t52 => 
    callS Try.prog 57 #[t52] (fun t53 w_13 => 
    condS t53
     (rd Try.prog (Instr.loadAt 25 t9) (fun t55 => 
     callS Try.prog 50 #[t10, t55] (fun _ w_14 => 
     J_3  w_14) w_13) w_13)
     (J_3  w_13)) w_12) w_12) w_11) w_11) w_10) w_9) w_9)
   (fun  w_15 => ∀ _j : Fr, 
    pur Try.prog (binS .add 3 false true t40 (.int .i64 1)) fun t57 => 
    J_2 t57 w_15))
    (Q t10 w_9)) [(.int .i64 0)] w_8) w_8))) [(.int .i64 0)] w_2) w_1) w_1) w
theorem eq42 (v_c : Value) (Q : Value → World → Prop) (w : World) : semF Try.prog 42 [v_c] Q w = S42 v_c Q w := by kernel_rfl
theorem ref42 {v_c : Value} {Q : Value → World → Prop} {w : World} (h : S42 v_c Q w) : callS Try.prog 42 #[v_c] Q w :=
  callS_of mix (fun a w => Try.call42 a w) (by kernel_rfl) (by rw [eq42]; exact h)
-- (*commons/imap.Map[int]).All
def S43 (v_m : Value) (Q : Value → World → Prop) (w : World) : Prop :=
 rd Try.prog (binS .eql 63 false true v_m (.pointer none)) (fun t4 => 
 condS t4
  (Q (.slice none 0 0) w)
  (pur Try.prog (nilV v_m) fun t6 => 
 pur Try.prog (Instr.fieldAt 89 t6 0) fun t7 => 
 rd Try.prog (Instr.loadAt 72 t7) (fun t8 => 
 callS Try.prog 58 #[t8] (fun t9 w_1 => 
 Q t9 w_1) w) w)) w
theorem eq43 (v_m : Value) (Q : Value → World → Prop) (w : World) : semF Try.prog 43 [v_m] Q w = S43 v_m Q w := by kernel_rfl
theorem ref43 {v_m : Value} {Q : Value → World → Prop} {w : World} (h : S43 v_m Q w) : callS Try.prog 43 #[v_m] Q w :=
  callS_of mix (fun a w => Try.call43 a w) (by kernel_rfl) (by rw [eq43]; exact h)
-- (*commons/imap.Map[int]).Set
def S44 (v_m v_s v_v : Value) (Q : Value → World → Prop) (w : World) : Prop :=
 act Try.prog (Instr.box 23 v_s) (fun t4 w_1 => 
 rd Try.prog (binS .eql 63 false true v_m (.pointer none)) (fun t8 => 
 gd t8 false (fun k w_2 => rd Try.prog (Instr.loadAt 23 t4) (fun t10 => k t10 w_2) w_2) (fun t10_1 w_3 => 
 gd t8 false (fun k_1 w_4 => callS Try.prog 57 #[t10_1] (fun t11 w_5 => k_1 t11 w_5) w_4) (fun t11_1 w_6 => 
 gd t8 false (fun k_2 w_7 => pur Try.prog (Op.unary .not t11_1) fun t12 => k_2 t12 w_7) (fun t12_1 w_8 => 
 pur Try.prog (pickS t8 (.bool true) t12_1) fun t13 => 
 condS t13
  (Q (.bool false) w_8)
  (jn 0 (fun J => 
  ∃ S : World → Prop, S (World.drew w_8) ∧ 
 hld Try.prog S (Instr.loadAt 23 t4) fun t16 => 
  hld Try.prog S (Instr.loadAt 23 t4) fun t18 => 
  pur Try.prog (Instr.build 75 #[(0, t18), (1, v_v)]) fun t20 => 
  (callS Try.prog 60 #[v_m, t16] (fun t17 w_9 => S w_9 ∧ 
  act Try.prog (Instr.buildSlice 72 1 #[(0, t20)]) (fun t21 w_10 => S w_10 ∧ 
  act Try.prog (Builtin.append_ #[72, 72] 72 #[t17, t21]) (fun t22 w_11 => S w_11 ∧ 
  callS Try.prog 59 #[v_m, t22] (fun _ w_12 => S w_12 ∧ 
  J  w_12) w_11) w_10) w_9) (World.drew w_8)
  ) ∧ (act Try.prog (Instr.buildSlice 72 1 #[(0, t20)]) (fun t21_1 w_13 => S w_13 ∧ 
  callS Try.prog 60 #[v_m, t16] (fun t17_1 w_14 => S w_14 ∧ 
  act Try.prog (Builtin.append_ #[72, 72] 72 #[t17_1, t21_1]) (fun t22_1 w_15 => S w_15 ∧ 
  callS Try.prog 59 #[v_m, t22_1] (fun _ w_16 => S w_16 ∧ 
  J  w_16) w_15) w_14) w_13) (World.drew w_8)))
 (fun  w_17 => ∀ _j : Fr, 
  Q (.bool true) w_17))) w_6) w_3) w_1) w_1) w
theorem eq44 (v_m v_s v_v : Value) (Q : Value → World → Prop) (w : World) : semF Try.prog 44 [v_m, v_s, v_v] Q w = S44 v_m v_s v_v Q w := by kernel_rfl
theorem ref44 {v_m v_s v_v : Value} {Q : Value → World → Prop} {w : World} (h : S44 v_m v_s v_v Q w) : callS Try.prog 44 #[v_m, v_s, v_v] Q w :=
  callS_of mix (fun a w => Try.call44 a w) (by kernel_rfl) (by rw [eq44]; exact h)
-- (*commons/imap.Map[int]).Parts
def S45 (v_m v_s : Value) (Q : Value → World → Prop) (w : World) : Prop :=
 act Try.prog (Instr.box 23 v_s) (fun t3 w_1 => 
 rd Try.prog (binS .eql 63 false true v_m (.pointer none)) (fun t11 => 
 condS t11
  (Q (.slice none 0 0) w_1)
  (pur Try.prog (nilV v_m) fun t13 => 
 pur Try.prog (Instr.fieldAt 89 t13 0) fun t14 => 
 rd Try.prog (Instr.loadAt 72 t14) (fun t15 => 
 pur Try.prog (Builtin.len_ #[72] 3 #[t15]) fun t16 => 
 lp 2 (fun J => fun v_out t17 w_2 => ∀ _j : Fr, 
  pur Try.prog (binS .lss 3 false false t17 t16) fun t18 => 
  condS t18
   (jn 1 (fun J_1 => 
   pur Try.prog (Instr.indexAt 72 t15 t17) fun t19 => 
   rd Try.prog (Instr.loadAt 75 t19) (fun t20 => 
   act Try.prog (Instr.alloc 75 true (.tuple #[])) (fun t7 w_3 => 
   act Try.prog (thenU (Instr.storeAt 75 t7 t20)) (fun _ w_4 => 
   pur Try.prog (Instr.fieldAt 75 t7 0) fun t22 => 
   rd Try.prog (Instr.loadAt 23 t22) (fun t23 => 
   rd Try.prog (Instr.loadAt 23 t3) (fun t24 => 
   callS Try.prog 61 #[t23, t24] (fun t25 w_5 => 
   pur Try.prog (Instr.extract t25 0) fun t26 => 
   pur Try.prog (Instr.extract t25 1) fun t27 => 
   act Try.prog (Instr.alloc 23 true (.tuple #[])) (fun t8 w_6 => 
   act Try.prog (thenU (Instr.storeAt 23 t8 t26)) (fun _ w_7 => 
   condS t27
    (rd Try.prog (Instr.loadAt 23 t8) (fun t30 => 
    pur Try.prog (Instr.fieldAt 75 t7 1) fun t31 => 
    rd Try.prog (Instr.loadAt 3 t31) (fun t32 => 
    pur Try.prog (Instr.build 75 #[(0, t30), (1, t32)]) fun t33 => 
    act Try.prog (Instr.buildSlice 72 1 #[(0, t33)]) (fun t34 w_8 => 
    act Try.prog (Builtin.append_ #[72, 72] 72 #[v_out, t34]) (fun t35 w_9 => 
    J_1 t35 w_9) w_8) w_7) w_7) w_7)
    (J_1 v_out w_7)) w_6) w_5) w_4) w_4) w_4) w_3) w_2) w_2)
  (fun v_out_1 w_10 => ∀ _j : Fr, 
   pur Try.prog (binS .add 3 false true t17 (.int .i64 1)) fun t36 => 
   J v_out_1 t36 w_10))
   (Q v_out w_2)) [(.slice none 0 0), (.int .i64 0)] w_1) w_1)) w_1) w
theorem eq45 (v_m v_s : Value) (Q : Value → World → Prop) (w : World) : semF Try.prog 45 [v_m, v_s] Q w = S45 v_m v_s Q w := by kernel_rfl
theorem ref45 {v_m v_s : Value} {Q : Value → World → Prop} {w : World} (h : S45 v_m v_s Q w) : callS Try.prog 45 #[v_m, v_s] Q w :=
  callS_of mix (fun a w => Try.call45 a w) (by kernel_rfl) (by rw [eq45]; exact h)
-- commons/clerk.locks
def S46 (v_m : Value) (Q : Value → World → Prop) (w : World) : Prop :=
 callS Try.prog 43 #[v_m] (fun t7 w_1 => 
 pur Try.prog (Builtin.len_ #[72] 3 #[t7]) fun t8 => 
 lp 2 (fun J => fun v_out t9 w_2 => ∀ _j : Fr, 
  pur Try.prog (binS .lss 3 false false t9 t8) fun t10 => 
  condS t10
   (pur Try.prog (Instr.indexAt 72 t7 t9) fun t11 => 
  rd Try.prog (Instr.loadAt 75 t11) (fun t12 => 
  act Try.prog (Instr.alloc 75 true (.tuple #[])) (fun t5 w_3 => 
  act Try.prog (thenU (Instr.storeAt 75 t5 t12)) (fun _ w_4 => 
  pur Try.prog (Instr.fieldAt 75 t5 0) fun t14 => 
  rd Try.prog (Instr.loadAt 23 t14) (fun t15 => 
  pur Try.prog (Instr.fieldAt 75 t5 1) fun t16 => 
  rd Try.prog (Instr.loadAt 3 t16) (fun t17 => 
  pur Try.prog (Instr.build 25 #[(0, t15), (1, t17)]) fun t18 => 
  act Try.prog (Instr.buildSlice 27 1 #[(0, t18)]) (fun t19 w_5 => 
  act Try.prog (Builtin.append_ #[27, 27] 27 #[v_out, t19]) (fun t20 w_6 => 
  pur Try.prog (binS .add 3 false true t9 (.int .i64 1)) fun t21 => 
  J t20 t21 w_6) w_5) w_4) w_4) w_4) w_3) w_2) w_2)
   (Q v_out w_2)) [(.slice none 0 0), (.int .i64 0)] w_1) w
theorem eq46 (v_m : Value) (Q : Value → World → Prop) (w : World) : semF Try.prog 46 [v_m] Q w = S46 v_m Q w := by kernel_rfl
theorem ref46 {v_m : Value} {Q : Value → World → Prop} {w : World} (h : S46 v_m Q w) : callS Try.prog 46 #[v_m] Q w :=
  callS_of mix (fun a w => Try.call46 a w) (by kernel_rfl) (by rw [eq46]; exact h)
-- commons/clerk.tidy
def S47 (v_l : Value) (Q : Value → World → Prop) (w : World) : Prop :=
 callS Try.prog 41 #[] (fun t6 w_1 => 
 pur Try.prog (Builtin.len_ #[27] 3 #[v_l]) fun t8 => 
 lp 1 (fun J => fun t9 w_2 => ∀ _j : Fr, 
  pur Try.prog (binS .lss 3 false false t9 t8) fun t10 => 
  condS t10
   (pur Try.prog (Instr.indexAt 27 v_l t9) fun t11 => 
  rd Try.prog (Instr.loadAt 25 t11) (fun t12 => 
  act Try.prog (Instr.alloc 25 true (.tuple #[])) (fun t5 w_3 => 
  act Try.prog (thenU (Instr.storeAt 25 t5 t12)) (fun _ w_4 => 
  pur Try.prog (Instr.fieldAt 25 t5 0) fun t14 => 
  rd Try.prog (Instr.loadAt 23 t14) (fun t15 => 
  pur Try.prog (Instr.fieldAt 25 t5 1) fun t16 => 
  rd Try.prog (Instr.loadAt 3 t16) (fun t17 => 
  callS Try.prog 44 #[t6, t15, t17] (fun _ w_5 => 
  pur Try.prog (binS .add 3 false true t9 (.int .i64 1)) fun t19 => 
  J t19 w_5) w_4) w_4) w_4) w_3) w_2) w_2)
   (callS Try.prog 46 #[t6] (fun t21 w_6 => 
 Q t21 w_6) w_2)) [(.int .i64 0)] w_1) w
theorem eq47 (v_l : Value) (Q : Value → World → Prop) (w : World) : semF Try.prog 47 [v_l] Q w = S47 v_l Q w := by kernel_rfl
theorem ref47 {v_l : Value} {Q : Value → World → Prop} {w : World} (h : S47 v_l Q w) : callS Try.prog 47 #[v_l] Q w :=
  callS_of mix (fun a w => Try.call47 a w) (by kernel_rfl) (by rw [eq47]; exact h)
-- (*commons/clerk.Clerk).changes
def S48 (v_c v_l : Value) (Q : Value → World → Prop) (w : World) : Prop :=
 callS Try.prog 41 #[] (fun t19 w_1 => 
 callS Try.prog 42 #[v_c] (fun t21 w_2 => 
 callS Try.prog 41 #[] (fun t22 w_3 => 
 pur Try.prog (nilV v_c) fun t24 => 
 pur Try.prog (Instr.fieldAt 65 t24 3) fun t25 => 
 rd Try.prog (Instr.loadAt 63 t25) (fun t26 => 
 callS Try.prog 46 #[t26] (fun t27 w_4 => 
 pur Try.prog (Builtin.len_ #[27] 3 #[t27]) fun t28 => 
 lp 1 (fun J => fun t29 w_5 => ∀ _j : Fr, 
  pur Try.prog (binS .lss 3 false false t29 t28) fun t30 => 
  condS t30
   (pur Try.prog (Instr.indexAt 27 t27 t29) fun t31 => 
  rd Try.prog (Instr.loadAt 25 t31) (fun t32 => 
  act Try.prog (Instr.alloc 25 true (.tuple #[])) (fun t9 w_6 => 
  act Try.prog (thenU (Instr.storeAt 25 t9 t32)) (fun _ w_7 => 
  pur Try.prog (Instr.fieldAt 25 t9 0) fun t34 => 
  rd Try.prog (Instr.loadAt 23 t34) (fun t35 => 
  pur Try.prog (Instr.fieldAt 25 t9 1) fun t36 => 
  rd Try.prog (Instr.loadAt 3 t36) (fun t37 => 
  callS Try.prog 44 #[t22, t35, t37] (fun _ w_8 => 
  pur Try.prog (binS .add 3 false true t29 (.int .i64 1)) fun t39 => 
  J t39 w_8) w_7) w_7) w_7) w_6) w_5) w_5)
   (pur Try.prog (Builtin.len_ #[27] 3 #[v_l]) fun t41 => 
 lp 1 (fun J_1 => fun t42 w_9 => ∀ _j : Fr, 
  pur Try.prog (binS .lss 3 false false t42 t41) fun t43 => 
  condS t43
   (jn 0 (fun J_2 => 
   pur Try.prog (Instr.indexAt 27 v_l t42) fun t44 => 
   rd Try.prog (Instr.loadAt 25 t44) (fun t45 => 
   act Try.prog (Instr.alloc 25 true (.tuple #[])) (fun t11 w_10 => 
   act Try.prog (thenU (Instr.storeAt 25 t11 t45)) (fun _ w_11 => 
   pur Try.prog (Instr.fieldAt 25 t11 1) fun t46 => 
   rd Try.prog (Instr.loadAt 3 t46) (fun t47 => 
   callS Try.prog 62 #[t47] (fun t48 w_12 => 
   pur Try.prog (Op.unary .not t48) fun t49 => 
   condS t49
    (J_2  w_12)
    (callS Try.prog 41 #[] (fun t50 w_13 => 
   pur Try.prog (Instr.fieldAt 25 t11 0) fun t52 => 
   rd Try.prog (Instr.loadAt 23 t52) (fun t53 => 
   callS Try.prog 45 #[t22, t53] (fun t54 w_14 => 
   pur Try.prog (Builtin.len_ #[72] 3 #[t54]) fun t55 => 
   lp 1 (fun J_3 => fun t56 w_15 => ∀ _j : Fr, 
    pur Try.prog (binS .lss 3 false false t56 t55) fun t57 => 
    condS t57
     (jn 0 (fun J_4 => 
     pur Try.prog (Instr.indexAt 72 t54 t56) fun t58 => 
     rd Try.prog (Instr.loadAt 75 t58) (fun t59 => 
     act Try.prog (Instr.alloc 75 true (.tuple #[])) (fun t14 w_16 => 
     act Try.prog (thenU (Instr.storeAt 75 t14 t59)) (fun _ w_17 => 
     pur Try.prog (Instr.fieldAt 75 t14 1) fun t60 => 
     rd Try.prog (Instr.loadAt 3 t60) (fun t61 => 
     pur Try.prog (Instr.fieldAt 25 t11 1) fun t62 => 
     rd Try.prog (Instr.loadAt 3 t62) (fun t63 => 
     pur Try.prog (binS .leq 3 false false t61 t63) fun t64 => 
     condS t64
      (J_4  w_17)
      (pur Try.prog (Instr.fieldAt 75 t14 0) fun t66 => 
     rd Try.prog (Instr.loadAt 23 t66) (fun t67 => 
     pur Try.prog (Instr.fieldAt 25 t11 1) fun t68 => 
     rd Try.prog (Instr.loadAt 3 t68) (fun t69 => 
     callS Try.prog 44 #[t50, t67, t69] (fun _ w_18 => 
     pur Try.prog (Instr.fieldAt 75 t14 0) fun t72 => 
     rd Try.prog (Instr.loadAt 23 t72) (fun t73 => 
     callS Try.prog 45 #[t21, t73] (fun t74 w_19 => 
     pur Try.prog (Builtin.len_ #[72] 3 #[t74]) fun t75 => 
     lp 1 (fun J_5 => fun t76 w_20 => ∀ _j : Fr, 
      pur Try.prog (binS .lss 3 false false t76 t75) fun t77 => 
      condS t77
       (jn 0 (fun J_6 => 
       pur Try.prog (Instr.indexAt 72 t74 t76) fun t78 => 
       rd Try.prog (Instr.loadAt 75 t78) (fun t79 => 
       act Try.prog (Instr.alloc 75 true (.tuple #[])) (fun t16 w_21 => 
       act Try.prog (thenU (Instr.storeAt 75 t16 t79)) (fun _ w_22 => 
       pur Try.prog (Instr.fieldAt 75 t16 1) fun t80 => 
       rd Try.prog (Instr.loadAt 3 t80) (fun t81 => 
       pur Try.prog (Instr.fieldAt 25 t11 1) fun t82 => 
       rd Try.prog (Instr.loadAt 3 t82) (fun t83 => 
       pur Try.prog (binS .gtr 3 false false t81 t83) fun t84 => 
       condS t84
        (pur Try.prog (Instr.fieldAt 75 t16 0) fun t86 => 
        rd Try.prog (Instr.loadAt 23 t86) (fun t87 => 
        callS Try.prog 49 #[t50, t87] (fun _ w_23 => 
        J_6  w_23) w_22) w_22)
        (J_6  w_22)) w_22) w_22) w_21) w_20) w_20)
      (fun  w_24 => ∀ _j : Fr, 
       pur Try.prog (binS .add 3 false true t76 (.int .i64 1)) fun t89 => 
       J_5 t89 w_24))
       (J_4  w_20)) [(.int .i64 0)] w_19) w_18) w_18) w_17) w_17) w_17)) w_17) w_17) w_16) w_15) w_15)
    (fun  w_25 => ∀ _j : Fr, 
     pur Try.prog (binS .add 3 false true t56 (.int .i64 1)) fun t90 => 
     J_3 t90 w_25))
     (callS Try.prog 46 #[t50] (fun t92 w_26 => 
   pur Try.prog (Builtin.len_ #[27] 3 #[t92]) fun t93 => 
   lp 1 (fun J_7 => fun t94 w_27 => ∀ _j : Fr, 
    pur Try.prog (binS .lss 3 false false t94 t93) fun t95 => 
    condS t95
     (pur Try.prog (Instr.indexAt 27 t92 t94) fun t96 => 
    rd Try.prog (Instr.loadAt 25 t96) (fun t97 => 
    act Try.prog (Instr.alloc 25 true (.tuple #[])) (fun t18 w_28 => 
    act Try.prog (thenU (Instr.storeAt 25 t18 t97)) (fun _ w_29 => 
    pur Try.prog (Instr.fieldAt 25 t18 0) fun t99 => 
    rd Try.prog (Instr.loadAt 23 t99) (fun t100 => 
    pur Try.prog (Instr.fieldAt 25 t18 1) fun t101 => 
    rd Try.prog (Instr.loadAt 3 t101) (fun t102 => 
    callS Try.prog 44 #[t22, t100, t102] (fun _ w_30 => 
    pur Try.prog (Instr.fieldAt 25 t18 0) fun t105 => 
    rd Try.prog (Instr.loadAt 23 t105) (fun t106 => 
    pur Try.prog (Instr.fieldAt 25 t18 1) fun t107 => 
    rd Try.prog (Instr.loadAt 3 t107) (fun t108 => 
    callS Try.prog 44 #[t19, t106, t108] (fun _ w_31 => 
    pur Try.prog (binS .add 3 false true t94 (.int .i64 1)) fun t110 => 
    J_7 t110 w_31) w_30) w_30) w_30) w_29) w_29) w_29) w_28) w_27) w_27)
     (J_2  w_27)) [(.int .i64 0)] w_26) w_15)) [(.int .i64 0)] w_14) w_13) w_13) w_12)) w_11) w_11) w_10) w_9) w_9)
  (fun  w_32 => ∀ _j : Fr, 
   pur Try.prog (binS .add 3 false true t42 (.int .i64 1)) fun t111 => 
   J_1 t111 w_32))
   (callS Try.prog 46 #[t19] (fun t113 w_33 => 
 Q t113 w_33) w_9)) [(.int .i64 0)] w_5)) [(.int .i64 0)] w_4) w_3) w_3) w_2) w_1) w
theorem eq48 (v_c v_l : Value) (Q : Value → World → Prop) (w : World) : semF Try.prog 48 [v_c, v_l] Q w = S48 v_c v_l Q w := by kernel_rfl
theorem ref48 {v_c v_l : Value} {Q : Value → World → Prop} {w : World} (h : S48 v_c v_l Q w) : callS Try.prog 48 #[v_c, v_l] Q w :=
  callS_of mix (fun a w => Try.call48 a w) (by kernel_rfl) (by rw [eq48]; exact h)
-- (*commons/imap.Map[int]).Clear
def S49 (v_m v_s : Value) (Q : Value → World → Prop) (w : World) : Prop :=
 act Try.prog (Instr.box 23 v_s) (fun t3 w_1 => 
 rd Try.prog (binS .eql 63 false true v_m (.pointer none)) (fun t6 => 
 gd t6 false (fun k w_2 => rd Try.prog (Instr.loadAt 23 t3) (fun t8 => k t8 w_2) w_2) (fun t8_1 w_3 => 
 gd t6 false (fun k_1 w_4 => callS Try.prog 57 #[t8_1] (fun t9 w_5 => k_1 t9 w_5) w_4) (fun t9_1 w_6 => 
 gd t6 false (fun k_2 w_7 => pur Try.prog (Op.unary .not t9_1) fun t10 => k_2 t10 w_7) (fun t10_1 w_8 => 
 pur Try.prog (pickS t6 (.bool true) t10_1) fun t11 => 
 condS t11
  (Q (.bool false) w_8)
  (rd Try.prog (Instr.loadAt 23 t3) (fun t14 => 
 callS Try.prog 60 #[v_m, t14] (fun t15 w_9 => 
 callS Try.prog 59 #[v_m, t15] (fun _ w_10 => 
 Q (.bool true) w_10) w_9) w_8) w_8)) w_6) w_3) w_1) w_1) w
theorem eq49 (v_m v_s : Value) (Q : Value → World → Prop) (w : World) : semF Try.prog 49 [v_m, v_s] Q w = S49 v_m v_s Q w := by kernel_rfl
theorem ref49 {v_m v_s : Value} {Q : Value → World → Prop} {w : World} (h : S49 v_m v_s Q w) : callS Try.prog 49 #[v_m, v_s] Q w :=
  callS_of mix (fun a w => Try.call49 a w) (by kernel_rfl) (by rw [eq49]; exact h)
-- commons/mode.Raise
def S50 (v_m v_l : Value) (Q : Value → World → Prop) (w : World) : Prop :=
 act Try.prog (Instr.box 25 v_l) (fun t3 w_1 => 
 pur Try.prog (Instr.fieldAt 25 t3 0) fun t8 => 
 rd Try.prog (Instr.loadAt 23 t8) (fun t9 => 
 callS Try.prog 45 #[v_m, t9] (fun t10 w_2 => 
 pur Try.prog (Instr.fieldAt 25 t3 0) fun t12 => 
 rd Try.prog (Instr.loadAt 23 t12) (fun t13 => 
 pur Try.prog (Instr.fieldAt 25 t3 1) fun t14 => 
 rd Try.prog (Instr.loadAt 3 t14) (fun t15 => 
 callS Try.prog 44 #[v_m, t13, t15] (fun _ w_3 => 
 pur Try.prog (Builtin.len_ #[72] 3 #[t10]) fun t18 => 
 lp 1 (fun J => fun t19 w_4 => ∀ _j : Fr, 
  pur Try.prog (binS .lss 3 false false t19 t18) fun t20 => 
  condS t20
   (pur Try.prog (Instr.indexAt 72 t10 t19) fun t21 => 
  rd Try.prog (Instr.loadAt 75 t21) (fun t22 => 
  act Try.prog (Instr.alloc 75 true (.tuple #[])) (fun t6 w_5 => 
  act Try.prog (thenU (Instr.storeAt 75 t6 t22)) (fun _ w_6 => 
  ∃ S : World → Prop, S (World.drew w_6) ∧ 
  pur Try.prog (Instr.fieldAt 75 t6 0) fun t24 => 
  hld Try.prog S (Instr.loadAt 23 t24) fun t25 => 
  pur Try.prog (Instr.fieldAt 75 t6 1) fun t26 => 
  hld Try.prog S (Instr.loadAt 3 t26) fun t27 => 
  pur Try.prog (Instr.fieldAt 25 t3 1) fun t28 => 
  hld Try.prog S (Instr.loadAt 3 t28) fun t29 => 
  callS Try.prog 63 #[t27, t29] (fun t30 w_7 => S w_7 ∧ 
  callS Try.prog 44 #[v_m, t25, t30] (fun _ w_8 => S w_8 ∧ 
  pur Try.prog (binS .add 3 false true t19 (.int .i64 1)) fun t32 => 
  J t32 w_8) w_7) (World.drew w_6)) w_5) w_4) w_4)
   (Q (.tuple #[]) w_4)) [(.int .i64 0)] w_3) w_2) w_2) w_2) w_1) w_1) w
theorem eq50 (v_m v_l : Value) (Q : Value → World → Prop) (w : World) : semF Try.prog 50 [v_m, v_l] Q w = S50 v_m v_l Q w := by kernel_rfl
theorem ref50 {v_m v_l : Value} {Q : Value → World → Prop} {w : World} (h : S50 v_m v_l Q w) : callS Try.prog 50 #[v_m, v_l] Q w :=
  callS_of mix (fun a w => Try.call50 a w) (by kernel_rfl) (by rw [eq50]; exact h)
-- commons/mode.locks
def S51 (v_m : Value) (Q : Value → World → Prop) (w : World) : Prop :=
 callS Try.prog 43 #[v_m] (fun t7 w_1 => 
 pur Try.prog (Builtin.len_ #[72] 3 #[t7]) fun t8 => 
 lp 2 (fun J => fun v_out t9 w_2 => ∀ _j : Fr, 
  pur Try.prog (binS .lss 3 false false t9 t8) fun t10 => 
  condS t10
   (pur Try.prog (Instr.indexAt 72 t7 t9) fun t11 => 
  rd Try.prog (Instr.loadAt 75 t11) (fun t12 => 
  act Try.prog (Instr.alloc 75 true (.tuple #[])) (fun t5 w_3 => 
  act Try.prog (thenU (Instr.storeAt 75 t5 t12)) (fun _ w_4 => 
  pur Try.prog (Instr.fieldAt 75 t5 0) fun t14 => 
  rd Try.prog (Instr.loadAt 23 t14) (fun t15 => 
  pur Try.prog (Instr.fieldAt 75 t5 1) fun t16 => 
  rd Try.prog (Instr.loadAt 3 t16) (fun t17 => 
  pur Try.prog (Instr.build 25 #[(0, t15), (1, t17)]) fun t18 => 
  act Try.prog (Instr.buildSlice 27 1 #[(0, t18)]) (fun t19 w_5 => 
  act Try.prog (Builtin.append_ #[27, 27] 27 #[v_out, t19]) (fun t20 w_6 => 
  pur Try.prog (binS .add 3 false true t9 (.int .i64 1)) fun t21 => 
  J t20 t21 w_6) w_5) w_4) w_4) w_4) w_3) w_2) w_2)
   (Q v_out w_2)) [(.slice none 0 0), (.int .i64 0)] w_1) w
theorem eq51 (v_m : Value) (Q : Value → World → Prop) (w : World) : semF Try.prog 51 [v_m] Q w = S51 v_m Q w := by kernel_rfl
theorem ref51 {v_m : Value} {Q : Value → World → Prop} {w : World} (h : S51 v_m Q w) : callS Try.prog 51 #[v_m] Q w :=
  callS_of mix (fun a w => Try.call51 a w) (by kernel_rfl) (by rw [eq51]; exact h)
-- commons/mode.asked
def S52 (v_l : Value) (Q : Value → World → Prop) (w : World) : Prop :=
 callS Try.prog 41 #[] (fun t6 w_1 => 
 pur Try.prog (Builtin.len_ #[27] 3 #[v_l]) fun t8 => 
 lp 1 (fun J => fun t9 w_2 => ∀ _j : Fr, 
  pur Try.prog (binS .lss 3 false false t9 t8) fun t10 => 
  condS t10
   (jn 0 (fun J_1 => 
   pur Try.prog (Instr.indexAt 27 v_l t9) fun t11 => 
   rd Try.prog (Instr.loadAt 25 t11) (fun t12 => 
   act Try.prog (Instr.alloc 25 true (.tuple #[])) (fun t5 w_3 => 
   act Try.prog (thenU (Instr.storeAt 25 t5 t12)) (fun _ w_4 => 
   pur Try.prog (Instr.fieldAt 25 t5 1) fun t13 => 
   rd Try.prog (Instr.loadAt 3 t13) (fun t14 => 
   pur Try.prog (binS .eql 3 false true t14 (.int .i64 1)) fun t15 => 
   gd t15 false (fun k w_5 => pur Try.prog (Instr.fieldAt 25 t5 1) fun t17 => k t17 w_5) (fun t17_1 w_6 => 
   gd t15 false (fun k_1 w_7 => rd Try.prog (Instr.loadAt 3 t17_1) (fun t18 => k_1 t18 w_7) w_7) (fun t18_1 w_8 => 
   gd t15 false (fun k_2 w_9 => pur Try.prog (binS .eql 3 false true t18_1 (.int .i64 2)) fun t19 => k_2 t19 w_9) (fun t19_1 w_10 => 
   pur Try.prog (pickS t15 (.bool true) t19_1) fun t20 => 
   condS t20
    (rd Try.prog (Instr.loadAt 25 t5) (fun t22 => 
    callS Try.prog 50 #[t6, t22] (fun _ w_11 => 
    J_1  w_11) w_10) w_10)
    (J_1  w_10)) w_8) w_6) w_4) w_4) w_3) w_2) w_2)
  (fun  w_12 => ∀ _j : Fr, 
   pur Try.prog (binS .add 3 false true t9 (.int .i64 1)) fun t24 => 
   J t24 w_12))
   (Q t6 w_2)) [(.int .i64 0)] w_1) w
theorem eq52 (v_l : Value) (Q : Value → World → Prop) (w : World) : semF Try.prog 52 [v_l] Q w = S52 v_l Q w := by kernel_rfl
theorem ref52 {v_l : Value} {Q : Value → World → Prop} {w : World} (h : S52 v_l Q w) : callS Try.prog 52 #[v_l] Q w :=
  callS_of mix (fun a w => Try.call52 a w) (by kernel_rfl) (by rw [eq52]; exact h)
-- commons/mode.Needs
def S53 (v_held v_l : Value) (Q : Value → World → Prop) (w : World) : Prop :=
 callS Try.prog 52 #[v_l] (fun t11 w_1 => 
 callS Try.prog 51 #[t11] (fun t13 w_2 => 
 pur Try.prog (Builtin.len_ #[27] 3 #[t13]) fun t14 => 
 lp 1 (fun J => fun t15 w_3 => ∀ _j : Fr, 
  pur Try.prog (binS .lss 3 false false t15 t14) fun t16 => 
  condS t16
   (pur Try.prog (Instr.indexAt 27 t13 t15) fun t17 => 
  rd Try.prog (Instr.loadAt 25 t17) (fun t18 => 
  act Try.prog (Instr.alloc 25 true (.tuple #[])) (fun t7 w_4 => 
  act Try.prog (thenU (Instr.storeAt 25 t7 t18)) (fun _ w_5 => 
  pur Try.prog (Instr.fieldAt 25 t7 0) fun t20 => 
  rd Try.prog (Instr.loadAt 23 t20) (fun t21 => 
  callS Try.prog 45 #[v_held, t21] (fun t22 w_6 => 
  pur Try.prog (Builtin.len_ #[72] 3 #[t22]) fun t23 => 
  lp 1 (fun J_1 => fun t24 w_7 => ∀ _j : Fr, 
   pur Try.prog (binS .lss 3 false false t24 t23) fun t25 => 
   condS t25
    (jn 0 (fun J_2 => 
    pur Try.prog (Instr.indexAt 72 t22 t24) fun t26 => 
    rd Try.prog (Instr.loadAt 75 t26) (fun t27 => 
    act Try.prog (Instr.alloc 75 true (.tuple #[])) (fun t9 w_8 => 
    act Try.prog (thenU (Instr.storeAt 75 t9 t27)) (fun _ w_9 => 
    pur Try.prog (Instr.fieldAt 75 t9 1) fun t28 => 
    rd Try.prog (Instr.loadAt 3 t28) (fun t29 => 
    pur Try.prog (Instr.fieldAt 25 t7 1) fun t30 => 
    rd Try.prog (Instr.loadAt 3 t30) (fun t31 => 
    callS Try.prog 64 #[t29, t31] (fun t32 w_10 => 
    condS t32
     (pur Try.prog (Instr.fieldAt 75 t9 0) fun t34 => 
     rd Try.prog (Instr.loadAt 23 t34) (fun t35 => 
     callS Try.prog 49 #[t11, t35] (fun _ w_11 => 
     J_2  w_11) w_10) w_10)
     (J_2  w_10)) w_9) w_9) w_9) w_8) w_7) w_7)
   (fun  w_12 => ∀ _j : Fr, 
    pur Try.prog (binS .add 3 false true t24 (.int .i64 1)) fun t37 => 
    J_1 t37 w_12))
    (pur Try.prog (binS .add 3 false true t15 (.int .i64 1)) fun t38 => 
  J t38 w_7)) [(.int .i64 0)] w_6) w_5) w_5) w_4) w_3) w_3)
   (callS Try.prog 51 #[t11] (fun t40 w_13 => 
 Q t40 w_13) w_3)) [(.int .i64 0)] w_2) w_1) w
theorem eq53 (v_held v_l : Value) (Q : Value → World → Prop) (w : World) : semF Try.prog 53 [v_held, v_l] Q w = S53 v_held v_l Q w := by kernel_rfl
theorem ref53 {v_held v_l : Value} {Q : Value → World → Prop} {w : World} (h : S53 v_held v_l Q w) : callS Try.prog 53 #[v_held, v_l] Q w :=
  callS_of mix (fun a w => Try.call53 a w) (by kernel_rfl) (by rw [eq53]; exact h)
-- (*commons/clerk.Clerk).owe
def S54 (v_c v_l v_gone : Value) (Q : Value → World → Prop) (w : World) : Prop :=
 act Try.prog (Instr.box 25 v_l) (fun t4 w_1 => 
 pur Try.prog (nilV v_c) fun t12 => 
 pur Try.prog (Instr.fieldAt 65 t12 3) fun t13 => 
 rd Try.prog (Instr.loadAt 63 t13) (fun t14 => 
 pur Try.prog (Instr.fieldAt 25 t4 0) fun t15 => 
 rd Try.prog (Instr.loadAt 23 t15) (fun t16 => 
 callS Try.prog 45 #[t14, t16] (fun t17 w_2 => 
 pur Try.prog (Builtin.len_ #[72] 3 #[t17]) fun t18 => 
 lp 1 (fun J => fun t19 w_3 => ∀ _j : Fr, 
  pur Try.prog (binS .lss 3 false false t19 t18) fun t20 => 
  condS t20
   (jn 0 (fun J_1 => 
   pur Try.prog (Instr.indexAt 72 t17 t19) fun t21 => 
   rd Try.prog (Instr.loadAt 75 t21) (fun t22 => 
   act Try.prog (Instr.alloc 75 true (.tuple #[])) (fun t7 w_4 => 
   act Try.prog (thenU (Instr.storeAt 75 t7 t22)) (fun _ w_5 => 
   pur Try.prog (Instr.fieldAt 75 t7 1) fun t23 => 
   rd Try.prog (Instr.loadAt 3 t23) (fun t24 => 
   pur Try.prog (Instr.fieldAt 25 t4 1) fun t25 => 
   rd Try.prog (Instr.loadAt 3 t25) (fun t26 => 
   pur Try.prog (binS .leq 3 false false t24 t26) fun t27 => 
   condS t27
    (J_1  w_5)
    (pur Try.prog (Instr.fieldAt 75 t7 0) fun t29 => 
   rd Try.prog (Instr.loadAt 23 t29) (fun t30 => 
   callS Try.prog 49 #[v_gone, t30] (fun _ w_6 => 
   pur Try.prog (nilV v_c) fun t33 => 
   pur Try.prog (Instr.fieldAt 65 t33 5) fun t34 => 
   rd Try.prog (Instr.loadAt 63 t34) (fun t35 => 
   pur Try.prog (Instr.fieldAt 75 t7 0) fun t36 => 
   rd Try.prog (Instr.loadAt 23 t36) (fun t37 => 
   callS Try.prog 45 #[t35, t37] (fun t38 w_7 => 
   pur Try.prog (nilV v_c) fun t40 => 
   pur Try.prog (Instr.fieldAt 65 t40 5) fun t41 => 
   rd Try.prog (Instr.loadAt 63 t41) (fun t42 => 
   pur Try.prog (Instr.fieldAt 75 t7 0) fun t43 => 
   rd Try.prog (Instr.loadAt 23 t43) (fun t44 => 
   pur Try.prog (Instr.fieldAt 25 t4 1) fun t45 => 
   rd Try.prog (Instr.loadAt 3 t45) (fun t46 => 
   callS Try.prog 44 #[t42, t44, t46] (fun _ w_8 => 
   pur Try.prog (Builtin.len_ #[72] 3 #[t38]) fun t49 => 
   lp 1 (fun J_2 => fun t50 w_9 => ∀ _j : Fr, 
    pur Try.prog (binS .lss 3 false false t50 t49) fun t51 => 
    condS t51
     (pur Try.prog (Instr.indexAt 72 t38 t50) fun t52 => 
    rd Try.prog (Instr.loadAt 75 t52) (fun t53 => 
    act Try.prog (Instr.alloc 75 true (.tuple #[])) (fun t10 w_10 => 
    act Try.prog (thenU (Instr.storeAt 75 t10 t53)) (fun _ w_11 => 
    pur Try.prog (nilV v_c) fun t55 => 
    pur Try.prog (Instr.fieldAt 65 t55 5) fun t56 => 
    rd Try.prog (Instr.loadAt 63 t56) (fun t57 => 
    pur Try.prog (Instr.fieldAt 75 t10 0) fun t58 => 
    rd Try.prog (Instr.loadAt 23 t58) (fun t59 => 
    pur Try.prog (Instr.fieldAt 75 t10 1) fun t60 => 
    rd Try.prog (Instr.loadAt 3 t60) (fun t61 => 
    pur Try.prog (Instr.fieldAt 25 t4 1) fun t62 => 
    rd Try.prog (Instr.loadAt 3 t62) (fun t63 => 
    pur Try.prog (Builtin.min_ #[3, 3] 3 #[t61, t63]) fun t64 => 
    callS Try.prog 44 #[t57, t59, t64] (fun _ w_12 => 
    pur Try.prog (binS .add 3 false true t50 (.int .i64 1)) fun t66 => 
    J_2 t66 w_12) (World.drew w_11)) (World.drew w_11)) (World.drew w_11)) (World.drew w_11)) (World.drew w_11)) w_10) w_9) w_9)
     (J_1  w_9)) [(.int .i64 0)] w_8) (World.drew w_7)) (World.drew w_7)) (World.drew w_7)) (World.drew w_7)) (World.drew w_6)) (World.drew w_6)) (World.drew w_6)) w_5) w_5)) w_5) w_5) w_4) w_3) w_3)
  (fun  w_13 => ∀ _j : Fr, 
   pur Try.prog (binS .add 3 false true t19 (.int .i64 1)) fun t67 => 
   J t67 w_13))
   (Q (.tuple #[]) w_3)) [(.int .i64 0)] w_2) (World.drew w_1)) (World.drew w_1)) (World.drew w_1)) w
theorem eq54 (v_c v_l v_gone : Value) (Q : Value → World → Prop) (w : World) : semF Try.prog 54 [v_c, v_l, v_gone] Q w = S54 v_c v_l v_gone Q w := by kernel_rfl
theorem ref54 {v_c v_l v_gone : Value} {Q : Value → World → Prop} {w : World} (h : S54 v_c v_l v_gone Q w) : callS Try.prog 54 #[v_c, v_l, v_gone] Q w :=
  callS_of mix (fun a w => Try.call54 a w) (by kernel_rfl) (by rw [eq54]; exact h)
-- commons/commonsref1.Valid
def S55 (v_s : Value) (Q : Value → World → Prop) (w : World) : Prop :=
 act Try.prog (Instr.box 23 v_s) (fun t1 w_1 => 
 pur Try.prog (Instr.fieldAt 23 t1 0) fun t3 => 
 rd Try.prog (Instr.loadAt 3 t3) (fun t4 => 
 pur Try.prog (binS .geq 3 false true t4 (.int .i64 0)) fun t5 => 
 gd t5 true (fun k w_2 => pur Try.prog (Instr.fieldAt 23 t1 0) fun t7 => k t7 w_2) (fun t7_1 w_3 => 
 gd t5 true (fun k_1 w_4 => rd Try.prog (Instr.loadAt 3 t7_1) (fun t8 => k_1 t8 w_4) w_4) (fun t8_1 w_5 => 
 gd t5 true (fun k_2 w_6 => pur Try.prog (Instr.fieldAt 23 t1 1) fun t9 => k_2 t9 w_6) (fun t9_1 w_7 => 
 gd t5 true (fun k_3 w_8 => rd Try.prog (Instr.loadAt 3 t9_1) (fun t10 => k_3 t10 w_8) w_8) (fun t10_1 w_9 => 
 gd t5 true (fun k_4 w_10 => pur Try.prog (binS .lss 3 false false t8_1 t10_1) fun t11 => k_4 t11 w_10) (fun t11_1 w_11 => 
 pur Try.prog (pickS t5 t11_1 (.bool false)) fun t12 => 
 Q t12 w_11) w_9) w_7) w_5) w_3) w_1) w_1) w
theorem eq55 (v_s : Value) (Q : Value → World → Prop) (w : World) : semF Try.prog 55 [v_s] Q w = S55 v_s Q w := by kernel_rfl
theorem ref55 {v_s : Value} {Q : Value → World → Prop} {w : World} (h : S55 v_s Q w) : callS Try.prog 55 #[v_s] Q w :=
  callS_of mix (fun a w => Try.call55 a w) (by kernel_rfl) (by rw [eq55]; exact h)
-- (commons/commonsref1.Map).Clear
def S56 (v_m v_s : Value) (Q : Value → World → Prop) (w : World) : Prop :=
 act Try.prog (Instr.box 23 v_s) (fun t3 w_1 => 
 rd Try.prog (Instr.loadAt 23 t3) (fun t8 => 
 callS Try.prog 55 #[t8] (fun t9 w_2 => 
 pur Try.prog (Op.unary .not t9) fun t10 => 
 condS t10
  (Q v_m w_2)
  (lp 2 (fun J => fun v_out v_i w_3 => ∀ _j : Fr, 
  pur Try.prog (Builtin.len_ #[44] 3 #[v_m]) fun t14 => 
  pur Try.prog (binS .lss 3 false false v_i t14) fun t15 => 
  condS t15
   (jn 1 (fun J_1 => 
   pur Try.prog (Instr.indexAt 44 v_m v_i) fun t20 => 
   rd Try.prog (Instr.loadAt 82 t20) (fun t21 => 
   act Try.prog (Instr.alloc 82 true (.tuple #[])) (fun t7 w_4 => 
   act Try.prog (thenU (Instr.storeAt 82 t7 t21)) (fun _ w_5 => 
   jn 1 (fun J_2 => 
    pur Try.prog (Instr.fieldAt 82 t7 0) fun t22 => 
    pur Try.prog (Instr.fieldAt 23 t22 0) fun t23 => 
    rd Try.prog (Instr.loadAt 3 t23) (fun t24 => 
    pur Try.prog (Instr.fieldAt 23 t3 0) fun t25 => 
    rd Try.prog (Instr.loadAt 3 t25) (fun t26 => 
    pur Try.prog (binS .lss 3 false false t24 t26) fun t27 => 
    condS t27
     (pur Try.prog (Instr.fieldAt 82 t7 0) fun t29 => 
     pur Try.prog (Instr.fieldAt 23 t29 0) fun t30 => 
     rd Try.prog (Instr.loadAt 3 t30) (fun t31 => 
     pur Try.prog (Instr.fieldAt 82 t7 0) fun t32 => 
     pur Try.prog (Instr.fieldAt 23 t32 1) fun t33 => 
     rd Try.prog (Instr.loadAt 3 t33) (fun t34 => 
     pur Try.prog (Instr.fieldAt 23 t3 0) fun t35 => 
     rd Try.prog (Instr.loadAt 3 t35) (fun t36 => 
     pur Try.prog (Builtin.min_ #[3, 3] 3 #[t34, t36]) fun t37 => 
     pur Try.prog (Instr.build 23 #[(0, t31), (1, t37)]) fun t38 => 
     pur Try.prog (Instr.fieldAt 82 t7 1) fun t39 => 
     rd Try.prog (Instr.loadAt 3 t39) (fun t40 => 
     pur Try.prog (Instr.build 82 #[(0, t38), (1, t40)]) fun t41 => 
     act Try.prog (Instr.buildSlice 44 1 #[(0, t41)]) (fun t42 w_6 => 
     act Try.prog (Builtin.append_ #[44, 44] 44 #[v_out, t42]) (fun t43 w_7 => 
     J_2 t43 w_7) w_6) w_5) w_5) w_5) w_5) w_5)
     (J_2 v_out w_5)) w_5) w_5)
   (fun v_out_1 w_8 => ∀ _j : Fr, 
    pur Try.prog (Instr.fieldAt 82 t7 0) fun t44 => 
    pur Try.prog (Instr.fieldAt 23 t44 1) fun t45 => 
    rd Try.prog (Instr.loadAt 3 t45) (fun t46 => 
    pur Try.prog (Instr.fieldAt 23 t3 1) fun t47 => 
    rd Try.prog (Instr.loadAt 3 t47) (fun t48 => 
    pur Try.prog (binS .gtr 3 false false t46 t48) fun t49 => 
    condS t49
     (pur Try.prog (Instr.fieldAt 82 t7 0) fun t51 => 
     pur Try.prog (Instr.fieldAt 23 t51 0) fun t52 => 
     rd Try.prog (Instr.loadAt 3 t52) (fun t53 => 
     pur Try.prog (Instr.fieldAt 23 t3 1) fun t54 => 
     rd Try.prog (Instr.loadAt 3 t54) (fun t55 => 
     pur Try.prog (Builtin.max_ #[3, 3] 3 #[t53, t55]) fun t56 => 
     pur Try.prog (Instr.fieldAt 82 t7 0) fun t57 => 
     pur Try.prog (Instr.fieldAt 23 t57 1) fun t58 => 
     rd Try.prog (Instr.loadAt 3 t58) (fun t59 => 
     pur Try.prog (Instr.build 23 #[(0, t56), (1, t59)]) fun t60 => 
     pur Try.prog (Instr.fieldAt 82 t7 1) fun t61 => 
     rd Try.prog (Instr.loadAt 3 t61) (fun t62 => 
     pur Try.prog (Instr.build 82 #[(0, t60), (1, t62)]) fun t63 => 
     act Try.prog (Instr.buildSlice 44 1 #[(0, t63)]) (fun t64 w_9 => 
     act Try.prog (Builtin.append_ #[44, 44] 44 #[v_out_1, t64]) (fun t65 w_10 => 
     J_1 t65 w_10) w_9) w_8) w_8) w_8) w_8) w_8)
     (J_1 v_out_1 w_8)) w_8) w_8)) w_4) w_3) w_3)
  (fun v_out_2 w_11 => ∀ _j : Fr, 
   pur Try.prog (binS .add 3 false true v_i (.int .i64 1)) fun t17 => 
   J v_out_2 t17 w_11))
   (Q v_out w_3)) [(.slice none 0 0), (.int .i64 0)] w_2)) w_1) w_1) w
theorem eq56 (v_m v_s : Value) (Q : Value → World → Prop) (w : World) : semF Try.prog 56 [v_m, v_s] Q w = S56 v_m v_s Q w := by kernel_rfl
theorem ref56 {v_m v_s : Value} {Q : Value → World → Prop} {w : World} (h : S56 v_m v_s Q w) : callS Try.prog 56 #[v_m, v_s] Q w :=
  callS_of mix (fun a w => Try.call56 a w) (by kernel_rfl) (by rw [eq56]; exact h)
-- commons/span.Valid
def S57 (v_s : Value) (Q : Value → World → Prop) (w : World) : Prop :=
 act Try.prog (Instr.box 23 v_s) (fun t1 w_1 => 
 pur Try.prog (Instr.fieldAt 23 t1 0) fun t3 => 
 rd Try.prog (Instr.loadAt 3 t3) (fun t4 => 
 pur Try.prog (binS .geq 3 false true t4 (.int .i64 0)) fun t5 => 
 gd t5 true (fun k w_2 => pur Try.prog (Instr.fieldAt 23 t1 0) fun t7 => k t7 w_2) (fun t7_1 w_3 => 
 gd t5 true (fun k_1 w_4 => rd Try.prog (Instr.loadAt 3 t7_1) (fun t8 => k_1 t8 w_4) w_4) (fun t8_1 w_5 => 
 gd t5 true (fun k_2 w_6 => pur Try.prog (Instr.fieldAt 23 t1 1) fun t9 => k_2 t9 w_6) (fun t9_1 w_7 => 
 gd t5 true (fun k_3 w_8 => rd Try.prog (Instr.loadAt 3 t9_1) (fun t10 => k_3 t10 w_8) w_8) (fun t10_1 w_9 => 
 gd t5 true (fun k_4 w_10 => pur Try.prog (binS .lss 3 false false t8_1 t10_1) fun t11 => k_4 t11 w_10) (fun t11_1 w_11 => 
 pur Try.prog (pickS t5 t11_1 (.bool false)) fun t12 => 
 Q t12 w_11) w_9) w_7) w_5) w_3) w_1) w_1) w
theorem eq57 (v_s : Value) (Q : Value → World → Prop) (w : World) : semF Try.prog 57 [v_s] Q w = S57 v_s Q w := by kernel_rfl
theorem ref57 {v_s : Value} {Q : Value → World → Prop} {w : World} (h : S57 v_s Q w) : callS Try.prog 57 #[v_s] Q w :=
  callS_of mix (fun a w => Try.call57 a w) (by kernel_rfl) (by rw [eq57]; exact h)
-- slices.Clone[[]commons/imap.Part[int],commons/imap.Part[int]]
def S58 (v_s : Value) (Q : Value → World → Prop) (w : World) : Prop :=
 rd Try.prog (binS .eql 72 false true v_s (.slice none 0 0)) (fun t4 => 
 condS t4
  (Q (.slice none 0 0) w)
  (act Try.prog (Instr.buildSlice 72 0 #[]) (fun t5 w_1 => 
 act Try.prog (Builtin.append_ #[72, 72] 72 #[t5, v_s]) (fun t7 w_2 => 
 Q t7 w_2) w_1) w)) w
theorem eq58 (v_s : Value) (Q : Value → World → Prop) (w : World) : semF Try.prog 58 [v_s] Q w = S58 v_s Q w := by kernel_rfl
theorem ref58 {v_s : Value} {Q : Value → World → Prop} {w : World} (h : S58 v_s Q w) : callS Try.prog 58 #[v_s] Q w :=
  callS_of mix (fun a w => Try.call58 a w) (by kernel_rfl) (by rw [eq58]; exact h)
-- (*commons/imap.Map[int]).lay
def S59 (v_m v_l : Value) (Q : Value → World → Prop) (w : World) : Prop :=
 callS Try.prog 65 #[v_l, (.func (.func 66) #[] #[])] (fun _ w_1 => 
 pur Try.prog (nilV v_m) fun t10 => 
 pur Try.prog (Instr.fieldAt 89 t10 0) fun t11 => 
 act Try.prog (thenU (Instr.storeAt 72 t11 (.slice none 0 0))) (fun _ w_2 => 
 pur Try.prog (Builtin.len_ #[72] 3 #[v_l]) fun t13 => 
 lp 1 (fun J => fun t14 w_3 => ∀ _j : Fr, 
  pur Try.prog (binS .lss 3 false false t14 t13) fun t15 => 
  condS t15
   (jn 0 (fun J_1 => 
   pur Try.prog (Instr.indexAt 72 v_l t14) fun t16 => 
   rd Try.prog (Instr.loadAt 75 t16) (fun t17 => 
   act Try.prog (Instr.alloc 75 true (.tuple #[])) (fun t5 w_4 => 
   act Try.prog (thenU (Instr.storeAt 75 t5 t17)) (fun _ w_5 => 
   pur Try.prog (nilV v_m) fun t19 => 
   pur Try.prog (Instr.fieldAt 89 t19 0) fun t20 => 
   rd Try.prog (Instr.loadAt 72 t20) (fun t21 => 
   pur Try.prog (Builtin.len_ #[72] 3 #[t21]) fun t22 => 
   pur Try.prog (binS .sub 3 false true t22 (.int .i64 1)) fun t23 => 
   pur Try.prog (binS .geq 3 false true t23 (.int .i64 0)) fun t25 => 
   gd t25 true (fun k w_6 => k v_m w_6) (fun t27_1 w_7 => 
   gd t25 true (fun k_1 w_8 => pur Try.prog (nilV t27_1) fun t28 => k_1 t28 w_8) (fun t28_1 w_9 => 
   gd t25 true (fun k_2 w_10 => pur Try.prog (Instr.fieldAt 89 t28_1 0) fun t29 => k_2 t29 w_10) (fun t29_1 w_11 => 
   gd t25 true (fun k_3 w_12 => rd Try.prog (Instr.loadAt 72 t29_1) (fun t30 => k_3 t30 w_12) w_12) (fun t30_1 w_13 => 
   gd t25 true (fun k_4 w_14 => k_4 t23 w_14) (fun t31_1 w_15 => 
   gd t25 true (fun k_5 w_16 => pur Try.prog (Instr.indexAt 72 t30_1 t31_1) fun t32 => k_5 t32 w_16) (fun t32_1 w_17 => 
   gd t25 true (fun k_6 w_18 => pur Try.prog (Instr.fieldAt 75 t32_1 0) fun t33 => k_6 t33 w_18) (fun t33_1 w_19 => 
   gd t25 true (fun k_7 w_20 => pur Try.prog (Instr.fieldAt 23 t33_1 1) fun t34 => k_7 t34 w_20) (fun t34_1 w_21 => 
   gd t25 true (fun k_8 w_22 => rd Try.prog (Instr.loadAt 3 t34_1) (fun t35 => k_8 t35 w_22) w_22) (fun t35_1 w_23 => 
   gd t25 true (fun k_9 w_24 => pur Try.prog (Instr.fieldAt 75 t5 0) fun t36 => k_9 t36 w_24) (fun t36_1 w_25 => 
   gd t25 true (fun k_10 w_26 => pur Try.prog (Instr.fieldAt 23 t36_1 0) fun t37 => k_10 t37 w_26) (fun t37_1 w_27 => 
   gd t25 true (fun k_11 w_28 => rd Try.prog (Instr.loadAt 3 t37_1) (fun t38 => k_11 t38 w_28) w_28) (fun t38_1 w_29 => 
   gd t25 true (fun k_12 w_30 => pur Try.prog (binS .eql 3 false false t35_1 t38_1) fun t39 => k_12 t39 w_30) (fun t39_1 w_31 => 
   pur Try.prog (pickS t25 t39_1 (.bool false)) fun t40 => 
   gd t40 true (fun k_13 w_32 => k_13 v_m w_32) (fun t42_1 w_33 => 
   gd t40 true (fun k_14 w_34 => pur Try.prog (nilV t42_1) fun t43 => k_14 t43 w_34) (fun t43_1 w_35 => 
   gd t40 true (fun k_15 w_36 => pur Try.prog (Instr.fieldAt 89 t43_1 0) fun t44 => k_15 t44 w_36) (fun t44_1 w_37 => 
   gd t40 true (fun k_16 w_38 => rd Try.prog (Instr.loadAt 72 t44_1) (fun t45 => k_16 t45 w_38) w_38) (fun t45_1 w_39 => 
   gd t40 true (fun k_17 w_40 => k_17 t23 w_40) (fun t46_1 w_41 => 
   gd t40 true (fun k_18 w_42 => pur Try.prog (Instr.indexAt 72 t45_1 t46_1) fun t47 => k_18 t47 w_42) (fun t47_1 w_43 => 
   gd t40 true (fun k_19 w_44 => pur Try.prog (Instr.fieldAt 75 t47_1 1) fun t48 => k_19 t48 w_44) (fun t48_1 w_45 => 
   gd t40 true (fun k_20 w_46 => rd Try.prog (Instr.loadAt 3 t48_1) (fun t49 => k_20 t49 w_46) w_46) (fun t49_1 w_47 => 
   gd t40 true (fun k_21 w_48 => pur Try.prog (Instr.fieldAt 75 t5 1) fun t50 => k_21 t50 w_48) (fun t50_1 w_49 => 
   gd t40 true (fun k_22 w_50 => rd Try.prog (Instr.loadAt 3 t50_1) (fun t51 => k_22 t51 w_50) w_50) (fun t51_1 w_51 => 
   gd t40 true (fun k_23 w_52 => pur Try.prog (binS .eql 3 false false t49_1 t51_1) fun t52 => k_23 t52 w_52) (fun t52_1 w_53 => 
   pur Try.prog (pickS t40 t52_1 (.bool false)) fun t53 => 
   condS t53
    (pur Try.prog (nilV v_m) fun t55 => 
    pur Try.prog (Instr.fieldAt 89 t55 0) fun t56 => 
    rd Try.prog (Instr.loadAt 72 t56) (fun t57 => 
    pur Try.prog (Instr.fieldAt 75 t5 0) fun t59 => 
    pur Try.prog (Instr.fieldAt 23 t59 1) fun t60 => 
    rd Try.prog (Instr.loadAt 3 t60) (fun t61 => 
    pur Try.prog (Instr.indexAt 72 t57 t23) fun t62 => 
    pur Try.prog (Instr.fieldAt 75 t62 0) fun t63 => 
    pur Try.prog (Instr.fieldAt 23 t63 1) fun t64 => 
    act Try.prog (thenU (Instr.storeAt 3 t64 t61)) (fun _ w_54 => 
    J_1  w_54) (World.drew w_53)) (World.drew w_53)) (World.drew w_53))
    (jn 0 (fun J_2 => 
     pur Try.prog (nilV v_m) fun t67 => 
     pur Try.prog (Instr.fieldAt 89 t67 0) fun t68 => 
     rd Try.prog (Instr.loadAt 75 t5) (fun t70 => 
     (rd Try.prog (Instr.loadAt 72 t68) (fun t69 => 
     act Try.prog (Instr.buildSlice 72 1 #[(0, t70)]) (fun t71 w_55 => 
     act Try.prog (Builtin.append_ #[72, 72] 72 #[t69, t71]) (fun t72 w_56 => 
     pur Try.prog (nilV v_m) fun t73 => 
     pur Try.prog (Instr.fieldAt 89 t73 0) fun t74 => 
     act Try.prog (thenU (Instr.storeAt 72 t74 t72)) (fun _ w_57 => 
     J_2  w_57) w_56) w_55) (World.drew w_53)) (World.drew w_53)
     ) ∧ (act Try.prog (Instr.buildSlice 72 1 #[(0, t70)]) (fun t71_1 w_58 => 
     rd Try.prog (Instr.loadAt 72 t68) (fun t69_1 => 
     act Try.prog (Builtin.append_ #[72, 72] 72 #[t69_1, t71_1]) (fun t72_1 w_59 => 
     pur Try.prog (nilV v_m) fun t73_1 => 
     pur Try.prog (Instr.fieldAt 89 t73_1 0) fun t74_1 => 
     act Try.prog (thenU (Instr.storeAt 72 t74_1 t72_1)) (fun _ w_60 => 
     J_2  w_60) w_59) w_58) w_58) (World.drew w_53))) (World.drew w_53))
    (fun  w_61 => ∀ _j : Fr, 
     J_1  w_61))) w_51) w_49) w_47) w_45) w_43) w_41) w_39) w_37) w_35) w_33) w_31) w_29) w_27) w_25) w_23) w_21) w_19) w_17) w_15) w_13) w_11) w_9) w_7) (World.drew w_5)) w_5) w_4) w_3) w_3)
  (fun  w_62 => ∀ _j : Fr, 
   pur Try.prog (binS .add 3 false true t14 (.int .i64 1)) fun t75 => 
   J t75 w_62))
   (Q (.tuple #[]) w_3)) [(.int .i64 0)] w_2) w_1) w
theorem eq59 (v_m v_l : Value) (Q : Value → World → Prop) (w : World) : semF Try.prog 59 [v_m, v_l] Q w = S59 v_m v_l Q w := by kernel_rfl
theorem ref59 {v_m v_l : Value} {Q : Value → World → Prop} {w : World} (h : S59 v_m v_l Q w) : callS Try.prog 59 #[v_m, v_l] Q w :=
  callS_of mix (fun a w => Try.call59 a w) (by kernel_rfl) (by rw [eq59]; exact h)
-- (*commons/imap.Map[int]).without
def S60 (v_m v_s : Value) (Q : Value → World → Prop) (w : World) : Prop :=
 act Try.prog (Instr.box 23 v_s) (fun t3 w_1 => 
 pur Try.prog (nilV v_m) fun t11 => 
 pur Try.prog (Instr.fieldAt 89 t11 0) fun t12 => 
 rd Try.prog (Instr.loadAt 72 t12) (fun t13 => 
 pur Try.prog (Builtin.len_ #[72] 3 #[t13]) fun t14 => 
 lp 2 (fun J => fun v_out t15 w_2 => ∀ _j : Fr, 
  pur Try.prog (binS .lss 3 false false t15 t14) fun t16 => 
  condS t16
   (pur Try.prog (Instr.indexAt 72 t13 t15) fun t17 => 
  rd Try.prog (Instr.loadAt 75 t17) (fun t18 => 
  act Try.prog (Instr.alloc 75 true (.tuple #[])) (fun t7 w_3 => 
  act Try.prog (thenU (Instr.storeAt 75 t7 t18)) (fun _ w_4 => 
  pur Try.prog (Instr.fieldAt 75 t7 0) fun t19 => 
  rd Try.prog (Instr.loadAt 23 t19) (fun t20 => 
  act Try.prog (Instr.buildSlice 98 1 #[(0, t20)]) (fun t21 w_5 => 
  rd Try.prog (Instr.loadAt 23 t3) (fun t22 => 
  act Try.prog (Instr.buildSlice 98 1 #[(0, t22)]) (fun t23 w_6 => 
  callS Try.prog 68 #[t21, t23] (fun t24 w_7 => 
  pur Try.prog (Builtin.len_ #[98] 3 #[t24]) fun t25 => 
  lp 2 (fun J_1 => fun v_out_1 t26 w_8 => ∀ _j : Fr, 
   pur Try.prog (binS .lss 3 false false t26 t25) fun t27 => 
   condS t27
    (pur Try.prog (Instr.indexAt 98 t24 t26) fun t28 => 
   rd Try.prog (Instr.loadAt 23 t28) (fun t29 => 
   act Try.prog (Instr.alloc 23 true (.tuple #[])) (fun t9 w_9 => 
   act Try.prog (thenU (Instr.storeAt 23 t9 t29)) (fun _ w_10 => 
   rd Try.prog (Instr.loadAt 23 t9) (fun t31 => 
   pur Try.prog (Instr.fieldAt 75 t7 1) fun t32 => 
   rd Try.prog (Instr.loadAt 3 t32) (fun t33 => 
   pur Try.prog (Instr.build 75 #[(0, t31), (1, t33)]) fun t34 => 
   act Try.prog (Instr.buildSlice 72 1 #[(0, t34)]) (fun t35 w_11 => 
   act Try.prog (Builtin.append_ #[72, 72] 72 #[v_out_1, t35]) (fun t36 w_12 => 
   pur Try.prog (binS .add 3 false true t26 (.int .i64 1)) fun t37 => 
   J_1 t36 t37 w_12) w_11) w_10) w_10) w_10) w_9) w_8) w_8)
    (pur Try.prog (binS .add 3 false true t15 (.int .i64 1)) fun t38 => 
  J v_out_1 t38 w_8)) [v_out, (.int .i64 0)] w_7) w_6) w_5) w_5) w_4) w_4) w_3) w_2) w_2)
   (Q v_out w_2)) [(.slice none 0 0), (.int .i64 0)] w_1) w_1) w
theorem eq60 (v_m v_s : Value) (Q : Value → World → Prop) (w : World) : semF Try.prog 60 [v_m, v_s] Q w = S60 v_m v_s Q w := by kernel_rfl
theorem ref60 {v_m v_s : Value} {Q : Value → World → Prop} {w : World} (h : S60 v_m v_s Q w) : callS Try.prog 60 #[v_m, v_s] Q w :=
  callS_of mix (fun a w => Try.call60 a w) (by kernel_rfl) (by rw [eq60]; exact h)
-- commons/span.Meet
def S61 (v_a v_b : Value) (Q : Value → World → Prop) (w : World) : Prop :=
 act Try.prog (Instr.box 23 v_a) (fun t2 w_1 => 
 act Try.prog (Instr.box 23 v_b) (fun t3 w_2 => 
 act Try.prog (Instr.alloc 23 true (.tuple #[])) (fun t4 w_3 => 
 pur Try.prog (Instr.fieldAt 23 t2 0) fun t7 => 
 rd Try.prog (Instr.loadAt 3 t7) (fun t8 => 
 pur Try.prog (Instr.fieldAt 23 t3 0) fun t9 => 
 rd Try.prog (Instr.loadAt 3 t9) (fun t10 => 
 pur Try.prog (Builtin.max_ #[3, 3] 3 #[t8, t10]) fun t11 => 
 pur Try.prog (Instr.fieldAt 23 t2 1) fun t12 => 
 rd Try.prog (Instr.loadAt 3 t12) (fun t13 => 
 pur Try.prog (Instr.fieldAt 23 t3 1) fun t14 => 
 rd Try.prog (Instr.loadAt 3 t14) (fun t15 => 
 pur Try.prog (Builtin.min_ #[3, 3] 3 #[t13, t15]) fun t16 => 
 pur Try.prog (Instr.build 23 #[(0, t11), (1, t16)]) fun t17 => 
 act Try.prog (Instr.alloc 23 true (.tuple #[])) (fun t6 w_4 => 
 act Try.prog (thenU (Instr.storeAt 23 t6 t17)) (fun _ w_5 => 
 rd Try.prog (Instr.loadAt 23 t2) (fun t18 => 
 callS Try.prog 57 #[t18] (fun t19 w_6 => 
 pur Try.prog (Op.unary .not t19) fun t20 => 
 gd t20 false (fun k w_7 => rd Try.prog (Instr.loadAt 23 t3) (fun t22 => k t22 w_7) w_7) (fun t22_1 w_8 => 
 gd t20 false (fun k_1 w_9 => callS Try.prog 57 #[t22_1] (fun t23 w_10 => k_1 t23 w_10) w_9) (fun t23_1 w_11 => 
 gd t20 false (fun k_2 w_12 => pur Try.prog (Op.unary .not t23_1) fun t24 => k_2 t24 w_12) (fun t24_1 w_13 => 
 pur Try.prog (pickS t20 (.bool true) t24_1) fun t25 => 
 gd t25 false (fun k_3 w_14 => rd Try.prog (Instr.loadAt 23 t6) (fun t27 => k_3 t27 w_14) w_14) (fun t27_1 w_15 => 
 gd t25 false (fun k_4 w_16 => callS Try.prog 57 #[t27_1] (fun t28 w_17 => k_4 t28 w_17) w_16) (fun t28_1 w_18 => 
 gd t25 false (fun k_5 w_19 => pur Try.prog (Op.unary .not t28_1) fun t29 => k_5 t29 w_19) (fun t29_1 w_20 => 
 pur Try.prog (pickS t25 (.bool true) t29_1) fun t30 => 
 condS t30
  (pur Try.prog (Instr.build 23 #[]) fun t31 => 
  act Try.prog (thenU (Instr.storeAt 23 t4 t31)) (fun _ w_21 => 
  rd Try.prog (resL 23 t4) (fun r => Q (.tuple #[r, (.bool false)]) w_21) w_21) w_20)
  (rd Try.prog (Instr.loadAt 23 t6) (fun t32 => 
 act Try.prog (thenU (Instr.storeAt 23 t4 t32)) (fun _ w_22 => 
 rd Try.prog (resL 23 t4) (fun r_1 => Q (.tuple #[r_1, (.bool true)]) w_22) w_22) w_20) w_20)) w_18) w_15) w_13) w_11) w_8) w_6) w_5) w_5) w_4) w_3) w_3) w_3) w_3) w_3) w_2) w_1) w
theorem eq61 (v_a v_b : Value) (Q : Value → World → Prop) (w : World) : semF Try.prog 61 [v_a, v_b] Q w = S61 v_a v_b Q w := by kernel_rfl
theorem ref61 {v_a v_b : Value} {Q : Value → World → Prop} {w : World} (h : S61 v_a v_b Q w) : callS Try.prog 61 #[v_a, v_b] Q w :=
  callS_of mix (fun a w => Try.call61 a w) (by kernel_rfl) (by rw [eq61]; exact h)
-- commons/mode.Valid
def S62 (v_m : Value) (Q : Value → World → Prop) (w : World) : Prop :=
 pur Try.prog (binS .geq 3 false true v_m (.int .i64 0)) fun t4 => 
 gd t4 true (fun k w_1 => k v_m w_1) (fun t6_1 w_2 => 
 gd t4 true (fun k_1 w_3 => pur Try.prog (binS .leq 3 false true t6_1 (.int .i64 2)) fun t7 => k_1 t7 w_3) (fun t7_1 w_4 => 
 pur Try.prog (pickS t4 t7_1 (.bool false)) fun t8 => 
 Q t8 w_4) w_2) w
theorem eq62 (v_m : Value) (Q : Value → World → Prop) (w : World) : semF Try.prog 62 [v_m] Q w = S62 v_m Q w := by kernel_rfl
theorem ref62 {v_m : Value} {Q : Value → World → Prop} {w : World} (h : S62 v_m Q w) : callS Try.prog 62 #[v_m] Q w :=
  callS_of mix (fun a w => Try.call62 a w) (by kernel_rfl) (by rw [eq62]; exact h)
-- commons/mode.Join
def S63 (v_a v_b : Value) (Q : Value → World → Prop) (w : World) : Prop :=
 pur Try.prog (Builtin.max_ #[3, 3] 3 #[v_a, v_b]) fun t7 => 
 Q t7 w
theorem eq63 (v_a v_b : Value) (Q : Value → World → Prop) (w : World) : semF Try.prog 63 [v_a, v_b] Q w = S63 v_a v_b Q w := by kernel_rfl
theorem ref63 {v_a v_b : Value} {Q : Value → World → Prop} {w : World} (h : S63 v_a v_b Q w) : callS Try.prog 63 #[v_a, v_b] Q w :=
  callS_of mix (fun a w => Try.call63 a w) (by kernel_rfl) (by rw [eq63]; exact h)
-- commons/mode.Covers
def S64 (v_a v_b : Value) (Q : Value → World → Prop) (w : World) : Prop :=
 callS Try.prog 62 #[v_a] (fun t6 w_1 => 
 gd t6 true (fun k w_2 => k v_b w_2) (fun t8_1 w_3 => 
 gd t6 true (fun k_1 w_4 => callS Try.prog 62 #[t8_1] (fun t9 w_5 => k_1 t9 w_5) w_4) (fun t9_1 w_6 => 
 pur Try.prog (pickS t6 t9_1 (.bool false)) fun t10 => 
 gd t10 true (fun k_2 w_7 => k_2 v_b w_7) (fun t12_1 w_8 => 
 gd t10 true (fun k_3 w_9 => k_3 v_a w_9) (fun t13_1 w_10 => 
 gd t10 true (fun k_4 w_11 => pur Try.prog (binS .leq 3 false false t12_1 t13_1) fun t14 => k_4 t14 w_11) (fun t14_1 w_12 => 
 pur Try.prog (pickS t10 t14_1 (.bool false)) fun t15 => 
 Q t15 w_12) w_10) w_8) w_6) w_3) w_1) w
theorem eq64 (v_a v_b : Value) (Q : Value → World → Prop) (w : World) : semF Try.prog 64 [v_a, v_b] Q w = S64 v_a v_b Q w := by kernel_rfl
theorem ref64 {v_a v_b : Value} {Q : Value → World → Prop} {w : World} (h : S64 v_a v_b Q w) : callS Try.prog 64 #[v_a, v_b] Q w :=
  callS_of mix (fun a w => Try.call64 a w) (by kernel_rfl) (by rw [eq64]; exact h)
-- slices.SortFunc[[]commons/imap.Part[int],commons/imap.Part[int]]
def S65 (v_x v_cmp : Value) (Q : Value → World → Prop) (w : World) : Prop :=
 pur Try.prog (Builtin.len_ #[72] 3 #[v_x]) fun t6 => 
 pur Try.prog (convert 3 102 t6) fun t10 => 
 callS Try.prog 70 #[t10] (fun t11 w_1 => 
 callS Try.prog 69 #[v_x, (.int .i64 0), t6, t11, v_cmp] (fun _ w_2 => 
 Q (.tuple #[]) w_2) w_1) w
theorem eq65 (v_x v_cmp : Value) (Q : Value → World → Prop) (w : World) : semF Try.prog 65 [v_x, v_cmp] Q w = S65 v_x v_cmp Q w := by kernel_rfl
theorem ref65 {v_x v_cmp : Value} {Q : Value → World → Prop} {w : World} (h : S65 v_x v_cmp Q w) : callS Try.prog 65 #[v_x, v_cmp] Q w :=
  callS_of mix (fun a w => Try.call65 a w) (by kernel_rfl) (by rw [eq65]; exact h)
-- (*commons/imap.Map[int]).lay$1
def S66 (v_a v_b : Value) (Q : Value → World → Prop) (w : World) : Prop :=
 act Try.prog (Instr.box 75 v_a) (fun t2 w_1 => 
 act Try.prog (Instr.box 75 v_b) (fun t3 w_2 => 
 pur Try.prog (Instr.fieldAt 75 t2 0) fun t5 => 
 pur Try.prog (Instr.fieldAt 23 t5 0) fun t6 => 
 rd Try.prog (Instr.loadAt 3 t6) (fun t7 => 
 pur Try.prog (Instr.fieldAt 75 t3 0) fun t8 => 
 pur Try.prog (Instr.fieldAt 23 t8 0) fun t9 => 
 rd Try.prog (Instr.loadAt 3 t9) (fun t10 => 
 callS Try.prog 67 #[t7, t10] (fun t11 w_3 => 
 Q t11 w_3) w_2) w_2) w_2) w_1) w
theorem eq66 (v_a v_b : Value) (Q : Value → World → Prop) (w : World) : semF Try.prog 66 [v_a, v_b] Q w = S66 v_a v_b Q w := by kernel_rfl
theorem ref66 {v_a v_b : Value} {Q : Value → World → Prop} {w : World} (h : S66 v_a v_b Q w) : callS Try.prog 66 #[v_a, v_b] Q w :=
  callS_of mix (fun a w => Try.call66 a w) (by kernel_rfl) (by rw [eq66]; exact h)
-- cmp.Compare[int]
def S67 (v_x v_y : Value) (Q : Value → World → Prop) (w : World) : Prop :=
 callS Try.prog 71 #[v_x] (fun t8 w_1 => 
 callS Try.prog 71 #[v_y] (fun t10 w_2 => 
 condS t8
  (condS t10
   (Q (.int .i64 0) w_2)
   (Q (.int .i64 (-1)) w_2))
  (condS t10
  (Q (.int .i64 1) w_2)
  (pur Try.prog (binS .lss 3 false false v_x v_y) fun t16 => 
 condS t16
  (Q (.int .i64 (-1)) w_2)
  (pur Try.prog (binS .gtr 3 false false v_x v_y) fun t19 => 
 condS t19
  (Q (.int .i64 1) w_2)
  (Q (.int .i64 0) w_2))))) w_1) w
theorem eq67 (v_x v_y : Value) (Q : Value → World → Prop) (w : World) : semF Try.prog 67 [v_x, v_y] Q w = S67 v_x v_y Q w := by kernel_rfl
theorem ref67 {v_x v_y : Value} {Q : Value → World → Prop} {w : World} (h : S67 v_x v_y Q w) : callS Try.prog 67 #[v_x, v_y] Q w :=
  callS_of mix (fun a w => Try.call67 a w) (by kernel_rfl) (by rw [eq67]; exact h)
-- commons/span.Minus
def S68 (v_a v_b : Value) (Q : Value → World → Prop) (w : World) : Prop :=
 callS Try.prog 72 #[v_a] (fun t12 w_1 => 
 callS Try.prog 72 #[v_b] (fun t14 w_2 => 
 pur Try.prog (Builtin.len_ #[98] 3 #[t14]) fun t15 => 
 lp 2 (fun J => fun v_out t16 w_3 => ∀ _j : Fr, 
  pur Try.prog (binS .lss 3 false false t16 t15) fun t17 => 
  condS t17
   (pur Try.prog (Instr.indexAt 98 t14 t16) fun t18 => 
  rd Try.prog (Instr.loadAt 23 t18) (fun t19 => 
  act Try.prog (Instr.alloc 23 true (.tuple #[])) (fun t7 w_4 => 
  act Try.prog (thenU (Instr.storeAt 23 t7 t19)) (fun _ w_5 => 
  pur Try.prog (Builtin.len_ #[98] 3 #[v_out]) fun t21 => 
  lp 2 (fun J_1 => fun v_left t22 w_6 => ∀ _j : Fr, 
   pur Try.prog (binS .lss 3 false false t22 t21) fun t23 => 
   condS t23
    (jn 1 (fun J_2 => 
    pur Try.prog (Instr.indexAt 98 v_out t22) fun t24 => 
    rd Try.prog (Instr.loadAt 23 t24) (fun t25 => 
    act Try.prog (Instr.alloc 23 true (.tuple #[])) (fun t10 w_7 => 
    act Try.prog (thenU (Instr.storeAt 23 t10 t25)) (fun _ w_8 => 
    rd Try.prog (Instr.loadAt 23 t10) (fun t26 => 
    rd Try.prog (Instr.loadAt 23 t7) (fun t27 => 
    callS Try.prog 73 #[t26, t27] (fun t28 w_9 => 
    pur Try.prog (Op.unary .not t28) fun t29 => 
    condS t29
     (rd Try.prog (Instr.loadAt 23 t10) (fun t31 => 
     act Try.prog (Instr.buildSlice 98 1 #[(0, t31)]) (fun t32 w_10 => 
     act Try.prog (Builtin.append_ #[98, 98] 98 #[v_left, t32]) (fun t33 w_11 => 
     J_2 t33 w_11) w_10) w_9) w_9)
     (pur Try.prog (Instr.fieldAt 23 t10 0) fun t35 => 
    rd Try.prog (Instr.loadAt 3 t35) (fun t36 => 
    pur Try.prog (Instr.fieldAt 23 t7 0) fun t37 => 
    rd Try.prog (Instr.loadAt 3 t37) (fun t38 => 
    pur Try.prog (Instr.build 23 #[(0, t36), (1, t38)]) fun t39 => 
    pur Try.prog (Instr.fieldAt 23 t7 1) fun t40 => 
    rd Try.prog (Instr.loadAt 3 t40) (fun t41 => 
    pur Try.prog (Instr.fieldAt 23 t10 1) fun t42 => 
    rd Try.prog (Instr.loadAt 3 t42) (fun t43 => 
    pur Try.prog (Instr.build 23 #[(0, t41), (1, t43)]) fun t44 => 
    act Try.prog (Instr.buildSlice 98 2 #[(0, t39), (1, t44)]) (fun t45 w_12 => 
    act Try.prog (Builtin.append_ #[98, 98] 98 #[v_left, t45]) (fun t46 w_13 => 
    J_2 t46 w_13) w_12) w_9) w_9) w_9) w_9) w_9)) w_8) w_8) w_8) w_7) w_6) w_6)
   (fun v_left_1 w_14 => ∀ _j : Fr, 
    pur Try.prog (binS .add 3 false true t22 (.int .i64 1)) fun t47 => 
    J_1 v_left_1 t47 w_14))
    (callS Try.prog 72 #[v_left] (fun t49 w_15 => 
  pur Try.prog (binS .add 3 false true t16 (.int .i64 1)) fun t50 => 
  J t49 t50 w_15) w_6)) [(.slice none 0 0), (.int .i64 0)] w_5) w_4) w_3) w_3)
   (Q v_out w_3)) [t12, (.int .i64 0)] w_2) w_1) w
theorem eq68 (v_a v_b : Value) (Q : Value → World → Prop) (w : World) : semF Try.prog 68 [v_a, v_b] Q w = S68 v_a v_b Q w := by kernel_rfl
theorem ref68 {v_a v_b : Value} {Q : Value → World → Prop} {w : World} (h : S68 v_a v_b Q w) : callS Try.prog 68 #[v_a, v_b] Q w :=
  callS_of mix (fun a w => Try.call68 a w) (by kernel_rfl) (by rw [eq68]; exact h)
-- cmp.isNaN[int]
def S71 (v_x : Value) (Q : Value → World → Prop) (w : World) : Prop :=
 pur Try.prog (binS .neq 3 false false v_x v_x) fun t5 => 
 Q t5 w
theorem eq71 (v_x : Value) (Q : Value → World → Prop) (w : World) : semF Try.prog 71 [v_x] Q w = S71 v_x Q w := by kernel_rfl
theorem ref71 {v_x : Value} {Q : Value → World → Prop} {w : World} (h : S71 v_x Q w) : callS Try.prog 71 #[v_x] Q w :=
  callS_of mix (fun a w => Try.call71 a w) (by kernel_rfl) (by rw [eq71]; exact h)
-- commons/span.Norm
def S72 (v_l : Value) (Q : Value → World → Prop) (w : World) : Prop :=
 callS Try.prog 85 #[v_l] (fun t8 w_1 => 
 callS Try.prog 84 #[t8, (.func (.func 86) #[] #[])] (fun t9 w_2 => 
 callS Try.prog 87 #[t9, (.func (.func 88) #[] #[])] (fun _ w_3 => 
 pur Try.prog (Builtin.len_ #[98] 3 #[t9]) fun t13 => 
 lp 2 (fun J => fun v_out t14 w_4 => ∀ _j : Fr, 
  pur Try.prog (binS .lss 3 false false t14 t13) fun t15 => 
  condS t15
   (jn 1 (fun J_1 => 
   pur Try.prog (Instr.indexAt 98 t9 t14) fun t16 => 
   rd Try.prog (Instr.loadAt 23 t16) (fun t17 => 
   act Try.prog (Instr.alloc 23 true (.tuple #[])) (fun t5 w_5 => 
   act Try.prog (thenU (Instr.storeAt 23 t5 t17)) (fun _ w_6 => 
   pur Try.prog (Builtin.len_ #[98] 3 #[v_out]) fun t19 => 
   pur Try.prog (binS .sub 3 false true t19 (.int .i64 1)) fun t20 => 
   pur Try.prog (binS .geq 3 false true t20 (.int .i64 0)) fun t22 => 
   gd t22 true (fun k w_7 => pur Try.prog (Instr.fieldAt 23 t5 0) fun t24 => k t24 w_7) (fun t24_1 w_8 => 
   gd t22 true (fun k_1 w_9 => rd Try.prog (Instr.loadAt 3 t24_1) (fun t25 => k_1 t25 w_9) w_9) (fun t25_1 w_10 => 
   gd t22 true (fun k_2 w_11 => k_2 v_out w_11) (fun t26_1 w_12 => 
   gd t22 true (fun k_3 w_13 => k_3 t20 w_13) (fun t27_1 w_14 => 
   gd t22 true (fun k_4 w_15 => pur Try.prog (Instr.indexAt 98 t26_1 t27_1) fun t28 => k_4 t28 w_15) (fun t28_1 w_16 => 
   gd t22 true (fun k_5 w_17 => pur Try.prog (Instr.fieldAt 23 t28_1 1) fun t29 => k_5 t29 w_17) (fun t29_1 w_18 => 
   gd t22 true (fun k_6 w_19 => rd Try.prog (Instr.loadAt 3 t29_1) (fun t30 => k_6 t30 w_19) w_19) (fun t30_1 w_20 => 
   gd t22 true (fun k_7 w_21 => pur Try.prog (binS .leq 3 false false t25_1 t30_1) fun t31 => k_7 t31 w_21) (fun t31_1 w_22 => 
   pur Try.prog (pickS t22 t31_1 (.bool false)) fun t32 => 
   condS t32
    (pur Try.prog (Instr.indexAt 98 v_out t20) fun t37 => 
    pur Try.prog (Instr.fieldAt 23 t37 1) fun t38 => 
    rd Try.prog (Instr.loadAt 3 t38) (fun t39 => 
    pur Try.prog (Instr.fieldAt 23 t5 1) fun t40 => 
    rd Try.prog (Instr.loadAt 3 t40) (fun t41 => 
    pur Try.prog (Builtin.max_ #[3, 3] 3 #[t39, t41]) fun t42 => 
    pur Try.prog (Instr.indexAt 98 v_out t20) fun t43 => 
    pur Try.prog (Instr.fieldAt 23 t43 1) fun t44 => 
    act Try.prog (thenU (Instr.storeAt 3 t44 t42)) (fun _ w_23 => 
    J_1 v_out w_23) (World.drew w_22)) (World.drew w_22)) (World.drew w_22))
    (rd Try.prog (Instr.loadAt 23 t5) (fun t46 => 
    act Try.prog (Instr.buildSlice 98 1 #[(0, t46)]) (fun t47 w_24 => 
    act Try.prog (Builtin.append_ #[98, 98] 98 #[v_out, t47]) (fun t48 w_25 => 
    J_1 t48 w_25) w_24) w_22) w_22)) w_20) w_18) w_16) w_14) w_12) w_10) w_8) (World.drew w_6)) w_5) w_4) w_4)
  (fun v_out_1 w_26 => ∀ _j : Fr, 
   pur Try.prog (binS .add 3 false true t14 (.int .i64 1)) fun t49 => 
   J v_out_1 t49 w_26))
   (Q v_out w_4)) [(.slice none 0 0), (.int .i64 0)] w_3) w_2) w_1) w
theorem eq72 (v_l : Value) (Q : Value → World → Prop) (w : World) : semF Try.prog 72 [v_l] Q w = S72 v_l Q w := by kernel_rfl
theorem ref72 {v_l : Value} {Q : Value → World → Prop} {w : World} (h : S72 v_l Q w) : callS Try.prog 72 #[v_l] Q w :=
  callS_of mix (fun a w => Try.call72 a w) (by kernel_rfl) (by rw [eq72]; exact h)
-- commons/span.Meets
def S73 (v_a v_b : Value) (Q : Value → World → Prop) (w : World) : Prop :=
 act Try.prog (Instr.box 23 v_a) (fun t2 w_1 => 
 act Try.prog (Instr.box 23 v_b) (fun t3 w_2 => 
 rd Try.prog (Instr.loadAt 23 t2) (fun t8 => 
 rd Try.prog (Instr.loadAt 23 t3) (fun t9 => 
 callS Try.prog 61 #[t8, t9] (fun t10 w_3 => 
 pur Try.prog (Instr.extract t10 0) fun t11 => 
 pur Try.prog (Instr.extract t10 1) fun t12 => 
 act Try.prog (Instr.alloc 23 true (.tuple #[])) (fun t5 w_4 => 
 act Try.prog (thenU (Instr.storeAt 23 t5 t11)) (fun _ w_5 => 
 Q t12 w_5) w_4) w_3) w_2) w_2) w_2) w_1) w
theorem eq73 (v_a v_b : Value) (Q : Value → World → Prop) (w : World) : semF Try.prog 73 [v_a, v_b] Q w = S73 v_a v_b Q w := by kernel_rfl
theorem ref73 {v_a v_b : Value} {Q : Value → World → Prop} {w : World} (h : S73 v_a v_b Q w) : callS Try.prog 73 #[v_a, v_b] Q w :=
  callS_of mix (fun a w => Try.call73 a w) (by kernel_rfl) (by rw [eq73]; exact h)
-- slices.DeleteFunc[[]commons/api.Span,commons/api.Span]
def S84 (v_s v_del : Value) (Q : Value → World → Prop) (w : World) : Prop :=
 callS Try.prog 95 #[v_s, v_del] (fun t10 w_1 => 
 pur Try.prog (binS .eql 3 false true t10 (.int .i64 (-1))) fun t12 => 
 condS t12
  (Q v_s w_1)
  (pur Try.prog (binS .add 3 false true t10 (.int .i64 1)) fun t15 => 
 lp 2 (fun J => fun v_i v_j w_2 => ∀ _j : Fr, 
  pur Try.prog (Builtin.len_ #[98] 3 #[v_s]) fun t18 => 
  pur Try.prog (binS .lss 3 false false v_j t18) fun t19 => 
  condS t19
   (jn 1 (fun J_1 => 
   pur Try.prog (Instr.indexAt 98 v_s v_j) fun t24 => 
   rd Try.prog (Instr.loadAt 23 t24) (fun t25 => 
   act Try.prog (Instr.alloc 23 true (.tuple #[])) (fun t7 w_3 => 
   act Try.prog (thenU (Instr.storeAt 23 t7 t25)) (fun _ w_4 => 
   rd Try.prog (Instr.loadAt 23 t7) (fun t27 => 
   callF Try.prog v_del #[t27] (fun t28 w_5 => 
   pur Try.prog (Op.unary .not t28) fun t29 => 
   condS t29
    (rd Try.prog (Instr.loadAt 23 t7) (fun t32 => 
    pur Try.prog (Instr.indexAt 98 v_s v_i) fun t33 => 
    act Try.prog (thenU (Instr.storeAt 23 t33 t32)) (fun _ w_6 => 
    pur Try.prog (binS .add 3 false true v_i (.int .i64 1)) fun t35 => 
    J_1 t35 w_6) w_5) w_5)
    (J_1 v_i w_5)) w_4) w_4) w_3) w_2) w_2)
  (fun v_i_1 w_7 => ∀ _j : Fr, 
   pur Try.prog (binS .add 3 false true v_j (.int .i64 1)) fun t21 => 
   J v_i_1 t21 w_7))
   (pur Try.prog (Instr.sliceAt 98 v_s (some v_i) none none) fun t38 => 
 act Try.prog (Builtin.clear_ #[98] 0 #[t38]) (fun _ w_8 => 
 pur Try.prog (Instr.sliceAt 98 v_s none (some v_i) none) fun t41 => 
 Q t41 w_8) w_2)) [t10, t15] w_1)) w
theorem eq84 (v_s v_del : Value) (Q : Value → World → Prop) (w : World) : semF Try.prog 84 [v_s, v_del] Q w = S84 v_s v_del Q w := by kernel_rfl
theorem ref84 {v_s v_del : Value} {Q : Value → World → Prop} {w : World} (h : S84 v_s v_del Q w) : callS Try.prog 84 #[v_s, v_del] Q w :=
  callS_of mix (fun a w => Try.call84 a w) (by kernel_rfl) (by rw [eq84]; exact h)
-- slices.Clone[[]commons/api.Span,commons/api.Span]
def S85 (v_s : Value) (Q : Value → World → Prop) (w : World) : Prop :=
 rd Try.prog (binS .eql 98 false true v_s (.slice none 0 0)) (fun t4 => 
 condS t4
  (Q (.slice none 0 0) w)
  (act Try.prog (Instr.buildSlice 98 0 #[]) (fun t5 w_1 => 
 act Try.prog (Builtin.append_ #[98, 98] 98 #[t5, v_s]) (fun t7 w_2 => 
 Q t7 w_2) w_1) w)) w
theorem eq85 (v_s : Value) (Q : Value → World → Prop) (w : World) : semF Try.prog 85 [v_s] Q w = S85 v_s Q w := by kernel_rfl
theorem ref85 {v_s : Value} {Q : Value → World → Prop} {w : World} (h : S85 v_s Q w) : callS Try.prog 85 #[v_s] Q w :=
  callS_of mix (fun a w => Try.call85 a w) (by kernel_rfl) (by rw [eq85]; exact h)
-- commons/span.Norm$1
def S86 (v_s : Value) (Q : Value → World → Prop) (w : World) : Prop :=
 act Try.prog (Instr.box 23 v_s) (fun t1 w_1 => 
 rd Try.prog (Instr.loadAt 23 t1) (fun t3 => 
 callS Try.prog 57 #[t3] (fun t4 w_2 => 
 pur Try.prog (Op.unary .not t4) fun t5 => 
 Q t5 w_2) w_1) w_1) w
theorem eq86 (v_s : Value) (Q : Value → World → Prop) (w : World) : semF Try.prog 86 [v_s] Q w = S86 v_s Q w := by kernel_rfl
theorem ref86 {v_s : Value} {Q : Value → World → Prop} {w : World} (h : S86 v_s Q w) : callS Try.prog 86 #[v_s] Q w :=
  callS_of mix (fun a w => Try.call86 a w) (by kernel_rfl) (by rw [eq86]; exact h)
-- slices.SortFunc[[]commons/api.Span,commons/api.Span]
def S87 (v_x v_cmp : Value) (Q : Value → World → Prop) (w : World) : Prop :=
 pur Try.prog (Builtin.len_ #[98] 3 #[v_x]) fun t6 => 
 pur Try.prog (convert 3 102 t6) fun t10 => 
 callS Try.prog 70 #[t10] (fun t11 w_1 => 
 callS Try.prog 96 #[v_x, (.int .i64 0), t6, t11, v_cmp] (fun _ w_2 => 
 Q (.tuple #[]) w_2) w_1) w
theorem eq87 (v_x v_cmp : Value) (Q : Value → World → Prop) (w : World) : semF Try.prog 87 [v_x, v_cmp] Q w = S87 v_x v_cmp Q w := by kernel_rfl
theorem ref87 {v_x v_cmp : Value} {Q : Value → World → Prop} {w : World} (h : S87 v_x v_cmp Q w) : callS Try.prog 87 #[v_x, v_cmp] Q w :=
  callS_of mix (fun a w => Try.call87 a w) (by kernel_rfl) (by rw [eq87]; exact h)
-- commons/span.Norm$2
def S88 (v_a v_b : Value) (Q : Value → World → Prop) (w : World) : Prop :=
 act Try.prog (Instr.box 23 v_a) (fun t2 w_1 => 
 act Try.prog (Instr.box 23 v_b) (fun t3 w_2 => 
 ∃ S : World → Prop, S (World.drew w_2) ∧ 
 pur Try.prog (Instr.fieldAt 23 t2 0) fun t5 => 
 hld Try.prog S (Instr.loadAt 3 t5) fun t6 => 
 pur Try.prog (Instr.fieldAt 23 t3 0) fun t7 => 
 hld Try.prog S (Instr.loadAt 3 t7) fun t8 => 
 callS Try.prog 67 #[t6, t8] (fun t9 w_3 => S w_3 ∧ 
 pur Try.prog (Instr.fieldAt 23 t2 1) fun t10 => 
 hld Try.prog S (Instr.loadAt 3 t10) fun t11 => 
 pur Try.prog (Instr.fieldAt 23 t3 1) fun t12 => 
 hld Try.prog S (Instr.loadAt 3 t12) fun t13 => 
 callS Try.prog 67 #[t11, t13] (fun t14 w_4 => S w_4 ∧ 
 act Try.prog (Instr.buildSlice 127 2 #[(0, t9), (1, t14)]) (fun t15 w_5 => S w_5 ∧ 
 callS Try.prog 89 #[t15] (fun t16 w_6 => S w_6 ∧ 
 Q t16 w_6) w_5) w_4) w_3) (World.drew w_2)) w_1) w
theorem eq88 (v_a v_b : Value) (Q : Value → World → Prop) (w : World) : semF Try.prog 88 [v_a, v_b] Q w = S88 v_a v_b Q w := by kernel_rfl
theorem ref88 {v_a v_b : Value} {Q : Value → World → Prop} {w : World} (h : S88 v_a v_b Q w) : callS Try.prog 88 #[v_a, v_b] Q w :=
  callS_of mix (fun a w => Try.call88 a w) (by kernel_rfl) (by rw [eq88]; exact h)
-- cmp.Or[int]
def S89 (v_vals : Value) (Q : Value → World → Prop) (w : World) : Prop :=
 pur Try.prog (Builtin.len_ #[127] 3 #[v_vals]) fun t7 => 
 lp 1 (fun J => fun t8 w_1 => ∀ _j : Fr, 
  pur Try.prog (binS .lss 3 false false t8 t7) fun t9 => 
  condS t9
   (pur Try.prog (Instr.indexAt 127 v_vals t8) fun t10 => 
  rd Try.prog (Instr.loadAt 3 t10) (fun t11 => 
  pur Try.prog (binS .neq 3 false false t11 (.int .i64 0)) fun t14 => 
  condS t14
   (Q t11 w_1)
   (pur Try.prog (binS .add 3 false true t8 (.int .i64 1)) fun t16 => 
  J t16 w_1)) w_1)
   (Q (.int .i64 0) w_1)) [(.int .i64 0)] w
theorem eq89 (v_vals : Value) (Q : Value → World → Prop) (w : World) : semF Try.prog 89 [v_vals] Q w = S89 v_vals Q w := by kernel_rfl
theorem ref89 {v_vals : Value} {Q : Value → World → Prop} {w : World} (h : S89 v_vals Q w) : callS Try.prog 89 #[v_vals] Q w :=
  callS_of mix (fun a w => Try.call89 a w) (by kernel_rfl) (by rw [eq89]; exact h)
-- slices.IndexFunc[[]commons/api.Span,commons/api.Span]
def S95 (v_s v_f : Value) (Q : Value → World → Prop) (w : World) : Prop :=
 pur Try.prog (Builtin.len_ #[98] 3 #[v_s]) fun t7 => 
 lp 1 (fun J => fun t8 w_1 => ∀ _j : Fr, 
  pur Try.prog (binS .lss 3 false false t8 t7) fun t9 => 
  condS t9
   (pur Try.prog (Instr.indexAt 98 v_s t8) fun t14 => 
  rd Try.prog (Instr.loadAt 23 t14) (fun t15 => 
  callF Try.prog v_f #[t15] (fun t16 w_2 => 
  condS t16
   (Q t8 w_2)
   (pur Try.prog (binS .add 3 false true t8 (.int .i64 1)) fun t18 => 
  J t18 w_2)) w_1) w_1)
   (Q (.int .i64 (-1)) w_1)) [(.int .i64 0)] w
theorem eq95 (v_s v_f : Value) (Q : Value → World → Prop) (w : World) : semF Try.prog 95 [v_s, v_f] Q w = S95 v_s v_f Q w := by kernel_rfl
theorem ref95 {v_s v_f : Value} {Q : Value → World → Prop} {w : World} (h : S95 v_s v_f Q w) : callS Try.prog 95 #[v_s, v_f] Q w :=
  callS_of mix (fun a w => Try.call95 a w) (by kernel_rfl) (by rw [eq95]; exact h)
end Go.Proofs.Ytknklmemadediaa
